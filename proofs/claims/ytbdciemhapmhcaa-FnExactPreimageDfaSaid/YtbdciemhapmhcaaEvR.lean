/- Facts on the seat's types, printed by a program. -/
import Derived.Test.YtbdciemhapmhcaaProg
import Derived.Test.YtbdciemhapmhcaaEvM
set_option linter.unusedVariables false
set_option linter.unusedSimpArgs false
namespace Go.Ev
open Go Go.Proofs
set_option maxRecDepth 10000
theorem sz1 : szOf Try.prog 1 = 1 := by kernel_rfl
theorem ag1 : isAgg Try.prog 1 = false := by kernel_rfl
theorem ze1 : zero Try.prog 1 = some [V.nilfn] := by kernel_rfl
theorem u2 : Try.prog.underlying 2 = some (.int .i64) := by kernel_rfl
theorem sz2 : szOf Try.prog 2 = 1 := by kernel_rfl
theorem ag2 : isAgg Try.prog 2 = false := by kernel_rfl
theorem ze2 : zero Try.prog 2 = some [V.int .i64 0] := by kernel_rfl
theorem u3 : Try.prog.underlying 3 = some (.int .i64) := by kernel_rfl
theorem sz3 : szOf Try.prog 3 = 1 := by kernel_rfl
theorem ag3 : isAgg Try.prog 3 = false := by kernel_rfl
theorem ze3 : zero Try.prog 3 = some [V.int .i64 0] := by kernel_rfl
theorem u4 : Try.prog.underlying 4 = some .bool := by kernel_rfl
theorem sz4 : szOf Try.prog 4 = 1 := by kernel_rfl
theorem ag4 : isAgg Try.prog 4 = false := by kernel_rfl
theorem ze4 : zero Try.prog 4 = some [V.bool false] := by kernel_rfl
theorem ev4 (x y : Bool) : eqV Try.prog 4 (.bool x) (.bool y) = some (x == y) := by kernel_rfl
theorem u5 : Try.prog.underlying 5 = some (.int .u8) := by kernel_rfl
theorem sz5 : szOf Try.prog 5 = 1 := by kernel_rfl
theorem ag5 : isAgg Try.prog 5 = false := by kernel_rfl
theorem ze5 : zero Try.prog 5 = some [V.int .u8 0] := by kernel_rfl
theorem u6 : Try.prog.underlying 6 = some (.int .u8) := by kernel_rfl
theorem sz6 : szOf Try.prog 6 = 1 := by kernel_rfl
theorem ag6 : isAgg Try.prog 6 = false := by kernel_rfl
theorem ze6 : zero Try.prog 6 = some [V.int .u8 0] := by kernel_rfl
theorem sz7 : szOf Try.prog 7 = 4 := by kernel_rfl
theorem ag7 : isAgg Try.prog 7 = true := by kernel_rfl
theorem ze7 : zero Try.prog 7 = some [V.int .i64 0, V.int .i64 0, V.bool false, V.int .u8 0] := by kernel_rfl
theorem la7 : layOf Try.prog 7 = some [(2, 0, 1), (3, 1, 1), (4, 2, 1), (6, 3, 1)] := by kernel_rfl
theorem bd7 (H : Hint) (d : Nat) (ty : TypeId) (ps : Array (Nat × Operand)) (s : St) : evV Try.prog H d ty (.build 7 ps) s = aggO (buildL Try.prog [(2, 0, 1), (3, 1, 1), (4, 2, 1), (6, 3, 1)] s [V.int .i64 0, V.int .i64 0, V.bool false, V.int .u8 0] ps.toList) := build_lay la7 ze7
theorem xb7 (H : Hint) (d : Nat) (ty : TypeId) (ps : Array (Nat × Operand)) (pos : String) (aft : Array Edge) (g : Option (Nat × Bool)) : isX Try.prog H { dst := some d, op := .build 7 ps, type := ty, pos := pos, after := aft, guard := g } = !memN d H.arrs := by kernel_rfl
theorem fa7_0 (v : V) : vFieldAddr Try.prog 7 0 v = faddr 0 v := by kernel_rfl
theorem fg7_0 (s : St) (v : V) : vField Try.prog s 7 0 v = fget 0 1 false v := by kernel_rfl
theorem fa7_1 (v : V) : vFieldAddr Try.prog 7 1 v = faddr 1 v := by kernel_rfl
theorem fg7_1 (s : St) (v : V) : vField Try.prog s 7 1 v = fget 1 1 false v := by kernel_rfl
theorem fa7_2 (v : V) : vFieldAddr Try.prog 7 2 v = faddr 2 v := by kernel_rfl
theorem fg7_2 (s : St) (v : V) : vField Try.prog s 7 2 v = fget 2 1 false v := by kernel_rfl
theorem fa7_3 (v : V) : vFieldAddr Try.prog 7 3 v = faddr 3 v := by kernel_rfl
theorem fg7_3 (s : St) (v : V) : vField Try.prog s 7 3 v = fget 3 1 false v := by kernel_rfl
theorem sz8 : szOf Try.prog 8 = 4 := by kernel_rfl
theorem ag8 : isAgg Try.prog 8 = true := by kernel_rfl
theorem ze8 : zero Try.prog 8 = some [V.int .i64 0, V.int .i64 0, V.bool false, V.int .u8 0] := by kernel_rfl
theorem la8 : layOf Try.prog 8 = some [(2, 0, 1), (3, 1, 1), (4, 2, 1), (6, 3, 1)] := by kernel_rfl
theorem bd8 (H : Hint) (d : Nat) (ty : TypeId) (ps : Array (Nat × Operand)) (s : St) : evV Try.prog H d ty (.build 8 ps) s = aggO (buildL Try.prog [(2, 0, 1), (3, 1, 1), (4, 2, 1), (6, 3, 1)] s [V.int .i64 0, V.int .i64 0, V.bool false, V.int .u8 0] ps.toList) := build_lay la8 ze8
theorem xb8 (H : Hint) (d : Nat) (ty : TypeId) (ps : Array (Nat × Operand)) (pos : String) (aft : Array Edge) (g : Option (Nat × Bool)) : isX Try.prog H { dst := some d, op := .build 8 ps, type := ty, pos := pos, after := aft, guard := g } = !memN d H.arrs := by kernel_rfl
theorem fa8_0 (v : V) : vFieldAddr Try.prog 8 0 v = faddr 0 v := by kernel_rfl
theorem fg8_0 (s : St) (v : V) : vField Try.prog s 8 0 v = fget 0 1 false v := by kernel_rfl
theorem fa8_1 (v : V) : vFieldAddr Try.prog 8 1 v = faddr 1 v := by kernel_rfl
theorem fg8_1 (s : St) (v : V) : vField Try.prog s 8 1 v = fget 1 1 false v := by kernel_rfl
theorem fa8_2 (v : V) : vFieldAddr Try.prog 8 2 v = faddr 2 v := by kernel_rfl
theorem fg8_2 (s : St) (v : V) : vField Try.prog s 8 2 v = fget 2 1 false v := by kernel_rfl
theorem fa8_3 (v : V) : vFieldAddr Try.prog 8 3 v = faddr 3 v := by kernel_rfl
theorem fg8_3 (s : St) (v : V) : vField Try.prog s 8 3 v = fget 3 1 false v := by kernel_rfl
theorem u9 : Try.prog.underlying 9 = some .string := by kernel_rfl
theorem sz9 : szOf Try.prog 9 = 1 := by kernel_rfl
theorem ag9 : isAgg Try.prog 9 = false := by kernel_rfl
theorem ze9 : zero Try.prog 9 = some [V.str ⟨#[]⟩] := by kernel_rfl
theorem u10 : Try.prog.underlying 10 = some .string := by kernel_rfl
theorem sz10 : szOf Try.prog 10 = 1 := by kernel_rfl
theorem ag10 : isAgg Try.prog 10 = false := by kernel_rfl
theorem ze10 : zero Try.prog 10 = some [V.str ⟨#[]⟩] := by kernel_rfl
theorem u11 : Try.prog.underlying 11 = some .string := by kernel_rfl
theorem sz11 : szOf Try.prog 11 = 1 := by kernel_rfl
theorem ag11 : isAgg Try.prog 11 = false := by kernel_rfl
theorem ze11 : zero Try.prog 11 = some [V.str ⟨#[]⟩] := by kernel_rfl
theorem u12 : Try.prog.underlying 12 = some (.int .u64) := by kernel_rfl
theorem sz12 : szOf Try.prog 12 = 1 := by kernel_rfl
theorem ag12 : isAgg Try.prog 12 = false := by kernel_rfl
theorem ze12 : zero Try.prog 12 = some [V.int .u64 0] := by kernel_rfl
theorem sz13 : szOf Try.prog 13 = 2 := by kernel_rfl
theorem ag13 : isAgg Try.prog 13 = true := by kernel_rfl
theorem ze13 : zero Try.prog 13 = some [V.str ⟨#[]⟩, V.int .u64 0] := by kernel_rfl
theorem la13 : layOf Try.prog 13 = some [(9, 0, 1), (12, 1, 1)] := by kernel_rfl
theorem bd13 (H : Hint) (d : Nat) (ty : TypeId) (ps : Array (Nat × Operand)) (s : St) : evV Try.prog H d ty (.build 13 ps) s = aggO (buildL Try.prog [(9, 0, 1), (12, 1, 1)] s [V.str ⟨#[]⟩, V.int .u64 0] ps.toList) := build_lay la13 ze13
theorem xb13 (H : Hint) (d : Nat) (ty : TypeId) (ps : Array (Nat × Operand)) (pos : String) (aft : Array Edge) (g : Option (Nat × Bool)) : isX Try.prog H { dst := some d, op := .build 13 ps, type := ty, pos := pos, after := aft, guard := g } = !memN d H.arrs := by kernel_rfl
theorem fa13_0 (v : V) : vFieldAddr Try.prog 13 0 v = faddr 0 v := by kernel_rfl
theorem fg13_0 (s : St) (v : V) : vField Try.prog s 13 0 v = fget 0 1 false v := by kernel_rfl
theorem fa13_1 (v : V) : vFieldAddr Try.prog 13 1 v = faddr 1 v := by kernel_rfl
theorem fg13_1 (s : St) (v : V) : vField Try.prog s 13 1 v = fget 1 1 false v := by kernel_rfl
theorem sz14 : szOf Try.prog 14 = 2 := by kernel_rfl
theorem ag14 : isAgg Try.prog 14 = true := by kernel_rfl
theorem ze14 : zero Try.prog 14 = some [V.str ⟨#[]⟩, V.int .u64 0] := by kernel_rfl
theorem la14 : layOf Try.prog 14 = some [(9, 0, 1), (12, 1, 1)] := by kernel_rfl
theorem bd14 (H : Hint) (d : Nat) (ty : TypeId) (ps : Array (Nat × Operand)) (s : St) : evV Try.prog H d ty (.build 14 ps) s = aggO (buildL Try.prog [(9, 0, 1), (12, 1, 1)] s [V.str ⟨#[]⟩, V.int .u64 0] ps.toList) := build_lay la14 ze14
theorem xb14 (H : Hint) (d : Nat) (ty : TypeId) (ps : Array (Nat × Operand)) (pos : String) (aft : Array Edge) (g : Option (Nat × Bool)) : isX Try.prog H { dst := some d, op := .build 14 ps, type := ty, pos := pos, after := aft, guard := g } = !memN d H.arrs := by kernel_rfl
theorem fa14_0 (v : V) : vFieldAddr Try.prog 14 0 v = faddr 0 v := by kernel_rfl
theorem fg14_0 (s : St) (v : V) : vField Try.prog s 14 0 v = fget 0 1 false v := by kernel_rfl
theorem fa14_1 (v : V) : vFieldAddr Try.prog 14 1 v = faddr 1 v := by kernel_rfl
theorem fg14_1 (s : St) (v : V) : vField Try.prog s 14 1 v = fget 1 1 false v := by kernel_rfl
theorem u15 : Try.prog.underlying 15 = some (.pointer 186) := by kernel_rfl
theorem sz15 : szOf Try.prog 15 = 1 := by kernel_rfl
theorem ag15 : isAgg Try.prog 15 = false := by kernel_rfl
theorem ze15 : zero Try.prog 15 = some [V.nilp] := by kernel_rfl
theorem u16 : Try.prog.underlying 16 = some (.pointer 189) := by kernel_rfl
theorem sz16 : szOf Try.prog 16 = 1 := by kernel_rfl
theorem ag16 : isAgg Try.prog 16 = false := by kernel_rfl
theorem ze16 : zero Try.prog 16 = some [V.nilp] := by kernel_rfl
theorem u17 : Try.prog.underlying 17 = some (.pointer 199) := by kernel_rfl
theorem sz17 : szOf Try.prog 17 = 1 := by kernel_rfl
theorem ag17 : isAgg Try.prog 17 = false := by kernel_rfl
theorem ze17 : zero Try.prog 17 = some [V.nilp] := by kernel_rfl
theorem sz18 : szOf Try.prog 18 = 1 := by kernel_rfl
theorem ag18 : isAgg Try.prog 18 = true := by kernel_rfl
theorem ze18 : zero Try.prog 18 = some [V.nilp] := by kernel_rfl
theorem la18 : layOf Try.prog 18 = some [(17, 0, 1)] := by kernel_rfl
theorem bd18 (H : Hint) (d : Nat) (ty : TypeId) (ps : Array (Nat × Operand)) (s : St) : evV Try.prog H d ty (.build 18 ps) s = aggO (buildL Try.prog [(17, 0, 1)] s [V.nilp] ps.toList) := build_lay la18 ze18
theorem xb18 (H : Hint) (d : Nat) (ty : TypeId) (ps : Array (Nat × Operand)) (pos : String) (aft : Array Edge) (g : Option (Nat × Bool)) : isX Try.prog H { dst := some d, op := .build 18 ps, type := ty, pos := pos, after := aft, guard := g } = !memN d H.arrs := by kernel_rfl
theorem fa18_0 (v : V) : vFieldAddr Try.prog 18 0 v = faddr 0 v := by kernel_rfl
theorem fg18_0 (s : St) (v : V) : vField Try.prog s 18 0 v = fget 0 1 false v := by kernel_rfl
theorem sz19 : szOf Try.prog 19 = 1 := by kernel_rfl
theorem ag19 : isAgg Try.prog 19 = true := by kernel_rfl
theorem ze19 : zero Try.prog 19 = some [V.nilp] := by kernel_rfl
theorem la19 : layOf Try.prog 19 = some [(17, 0, 1)] := by kernel_rfl
theorem bd19 (H : Hint) (d : Nat) (ty : TypeId) (ps : Array (Nat × Operand)) (s : St) : evV Try.prog H d ty (.build 19 ps) s = aggO (buildL Try.prog [(17, 0, 1)] s [V.nilp] ps.toList) := build_lay la19 ze19
theorem xb19 (H : Hint) (d : Nat) (ty : TypeId) (ps : Array (Nat × Operand)) (pos : String) (aft : Array Edge) (g : Option (Nat × Bool)) : isX Try.prog H { dst := some d, op := .build 19 ps, type := ty, pos := pos, after := aft, guard := g } = !memN d H.arrs := by kernel_rfl
theorem fa19_0 (v : V) : vFieldAddr Try.prog 19 0 v = faddr 0 v := by kernel_rfl
theorem fg19_0 (s : St) (v : V) : vField Try.prog s 19 0 v = fget 0 1 false v := by kernel_rfl
theorem u21 : Try.prog.underlying 21 = some (.int .i32) := by kernel_rfl
theorem sz21 : szOf Try.prog 21 = 1 := by kernel_rfl
theorem ag21 : isAgg Try.prog 21 = false := by kernel_rfl
theorem ze21 : zero Try.prog 21 = some [V.int .i32 0] := by kernel_rfl
theorem u22 : Try.prog.underlying 22 = some (.slice 4) := by kernel_rfl
theorem sz22 : szOf Try.prog 22 = 1 := by kernel_rfl
theorem ag22 : isAgg Try.prog 22 = false := by kernel_rfl
theorem eo22 : elemOf Try.prog 22 = 4 := by kernel_rfl
theorem es22 : elemSz Try.prog 22 = 1 := by kernel_rfl
theorem gr22 : growB Try.prog 22 = true := by kernel_rfl
theorem df22 : dflt Try.prog 22 = V.bool false := by kernel_rfl
theorem ze22 : zero Try.prog 22 = some [V.slc true 1 []] := by kernel_rfl
theorem u23 : Try.prog.underlying 23 = some (.slice 43) := by kernel_rfl
theorem sz23 : szOf Try.prog 23 = 1 := by kernel_rfl
theorem ag23 : isAgg Try.prog 23 = false := by kernel_rfl
theorem eo23 : elemOf Try.prog 23 = 43 := by kernel_rfl
theorem es23 : elemSz Try.prog 23 = 1 := by kernel_rfl
theorem gr23 : growB Try.prog 23 = true := by kernel_rfl
theorem df23 : dflt Try.prog 23 = V.slc false 1 [] := by kernel_rfl
theorem ze23 : zero Try.prog 23 = some [V.slc true 1 []] := by kernel_rfl
theorem sz24 : szOf Try.prog 24 = 2 := by kernel_rfl
theorem ag24 : isAgg Try.prog 24 = true := by kernel_rfl
theorem ze24 : zero Try.prog 24 = some [V.slc true 1 [], V.slc true 1 []] := by kernel_rfl
theorem la24 : layOf Try.prog 24 = some [(22, 0, 1), (23, 1, 1)] := by kernel_rfl
theorem bd24 (H : Hint) (d : Nat) (ty : TypeId) (ps : Array (Nat × Operand)) (s : St) : evV Try.prog H d ty (.build 24 ps) s = aggO (buildL Try.prog [(22, 0, 1), (23, 1, 1)] s [V.slc true 1 [], V.slc true 1 []] ps.toList) := build_lay la24 ze24
theorem xb24 (H : Hint) (d : Nat) (ty : TypeId) (ps : Array (Nat × Operand)) (pos : String) (aft : Array Edge) (g : Option (Nat × Bool)) : isX Try.prog H { dst := some d, op := .build 24 ps, type := ty, pos := pos, after := aft, guard := g } = !memN d H.arrs := by kernel_rfl
theorem fa24_0 (v : V) : vFieldAddr Try.prog 24 0 v = faddr 0 v := by kernel_rfl
theorem fg24_0 (s : St) (v : V) : vField Try.prog s 24 0 v = fget 0 1 false v := by kernel_rfl
theorem fa24_1 (v : V) : vFieldAddr Try.prog 24 1 v = faddr 1 v := by kernel_rfl
theorem fg24_1 (s : St) (v : V) : vField Try.prog s 24 1 v = fget 1 1 false v := by kernel_rfl
theorem sz25 : szOf Try.prog 25 = 2 := by kernel_rfl
theorem ag25 : isAgg Try.prog 25 = true := by kernel_rfl
theorem ze25 : zero Try.prog 25 = some [V.slc true 1 [], V.slc true 1 []] := by kernel_rfl
theorem la25 : layOf Try.prog 25 = some [(22, 0, 1), (23, 1, 1)] := by kernel_rfl
theorem bd25 (H : Hint) (d : Nat) (ty : TypeId) (ps : Array (Nat × Operand)) (s : St) : evV Try.prog H d ty (.build 25 ps) s = aggO (buildL Try.prog [(22, 0, 1), (23, 1, 1)] s [V.slc true 1 [], V.slc true 1 []] ps.toList) := build_lay la25 ze25
theorem xb25 (H : Hint) (d : Nat) (ty : TypeId) (ps : Array (Nat × Operand)) (pos : String) (aft : Array Edge) (g : Option (Nat × Bool)) : isX Try.prog H { dst := some d, op := .build 25 ps, type := ty, pos := pos, after := aft, guard := g } = !memN d H.arrs := by kernel_rfl
theorem fa25_0 (v : V) : vFieldAddr Try.prog 25 0 v = faddr 0 v := by kernel_rfl
theorem fg25_0 (s : St) (v : V) : vField Try.prog s 25 0 v = fget 0 1 false v := by kernel_rfl
theorem fa25_1 (v : V) : vFieldAddr Try.prog 25 1 v = faddr 1 v := by kernel_rfl
theorem fg25_1 (s : St) (v : V) : vField Try.prog s 25 1 v = fget 1 1 false v := by kernel_rfl
theorem sz26 : szOf Try.prog 26 = 1 := by kernel_rfl
theorem ag26 : isAgg Try.prog 26 = false := by kernel_rfl
theorem ze26 : zero Try.prog 26 = some [V.nilfn] := by kernel_rfl
theorem sz27 : szOf Try.prog 27 = 2 := by kernel_rfl
theorem ag27 : isAgg Try.prog 27 = true := by kernel_rfl
theorem ze27 : zero Try.prog 27 = some [V.slc true 1 [], V.slc true 1 []] := by kernel_rfl
theorem la27 : layOf Try.prog 27 = some [(22, 0, 1), (23, 1, 1)] := by kernel_rfl
theorem bd27 (H : Hint) (d : Nat) (ty : TypeId) (ps : Array (Nat × Operand)) (s : St) : evV Try.prog H d ty (.build 27 ps) s = aggO (buildL Try.prog [(22, 0, 1), (23, 1, 1)] s [V.slc true 1 [], V.slc true 1 []] ps.toList) := build_lay la27 ze27
theorem xb27 (H : Hint) (d : Nat) (ty : TypeId) (ps : Array (Nat × Operand)) (pos : String) (aft : Array Edge) (g : Option (Nat × Bool)) : isX Try.prog H { dst := some d, op := .build 27 ps, type := ty, pos := pos, after := aft, guard := g } = !memN d H.arrs := by kernel_rfl
theorem fa27_0 (v : V) : vFieldAddr Try.prog 27 0 v = faddr 0 v := by kernel_rfl
theorem fg27_0 (s : St) (v : V) : vField Try.prog s 27 0 v = fget 0 1 false v := by kernel_rfl
theorem fa27_1 (v : V) : vFieldAddr Try.prog 27 1 v = faddr 1 v := by kernel_rfl
theorem fg27_1 (s : St) (v : V) : vField Try.prog s 27 1 v = fget 1 1 false v := by kernel_rfl
theorem sz29 : szOf Try.prog 29 = 1 := by kernel_rfl
theorem ag29 : isAgg Try.prog 29 = false := by kernel_rfl
theorem ze29 : zero Try.prog 29 = some [V.nilfn] := by kernel_rfl
theorem sz30 : szOf Try.prog 30 = 1 := by kernel_rfl
theorem ag30 : isAgg Try.prog 30 = false := by kernel_rfl
theorem ze30 : zero Try.prog 30 = some [V.nilfn] := by kernel_rfl
theorem sz31 : szOf Try.prog 31 = 1 := by kernel_rfl
theorem ag31 : isAgg Try.prog 31 = false := by kernel_rfl
theorem ze31 : zero Try.prog 31 = some [V.nilfn] := by kernel_rfl
theorem sz32 : szOf Try.prog 32 = 1 := by kernel_rfl
theorem ag32 : isAgg Try.prog 32 = false := by kernel_rfl
theorem ze32 : zero Try.prog 32 = some [V.nilfn] := by kernel_rfl
theorem sz33 : szOf Try.prog 33 = 1 := by kernel_rfl
theorem ag33 : isAgg Try.prog 33 = false := by kernel_rfl
theorem ze33 : zero Try.prog 33 = some [V.nilfn] := by kernel_rfl
theorem sz34 : szOf Try.prog 34 = 3 := by kernel_rfl
theorem ag34 : isAgg Try.prog 34 = true := by kernel_rfl
theorem ze34 : zero Try.prog 34 = some [V.str ⟨#[]⟩, V.str ⟨#[]⟩, V.str ⟨#[]⟩] := by kernel_rfl
theorem la34 : layOf Try.prog 34 = some [(9, 0, 1), (9, 1, 1), (9, 2, 1)] := by kernel_rfl
theorem bd34 (H : Hint) (d : Nat) (ty : TypeId) (ps : Array (Nat × Operand)) (s : St) : evV Try.prog H d ty (.build 34 ps) s = aggO (buildL Try.prog [(9, 0, 1), (9, 1, 1), (9, 2, 1)] s [V.str ⟨#[]⟩, V.str ⟨#[]⟩, V.str ⟨#[]⟩] ps.toList) := build_lay la34 ze34
theorem xb34 (H : Hint) (d : Nat) (ty : TypeId) (ps : Array (Nat × Operand)) (pos : String) (aft : Array Edge) (g : Option (Nat × Bool)) : isX Try.prog H { dst := some d, op := .build 34 ps, type := ty, pos := pos, after := aft, guard := g } = !memN d H.arrs := by kernel_rfl
theorem fa34_0 (v : V) : vFieldAddr Try.prog 34 0 v = faddr 0 v := by kernel_rfl
theorem fg34_0 (s : St) (v : V) : vField Try.prog s 34 0 v = fget 0 1 false v := by kernel_rfl
theorem fa34_1 (v : V) : vFieldAddr Try.prog 34 1 v = faddr 1 v := by kernel_rfl
theorem fg34_1 (s : St) (v : V) : vField Try.prog s 34 1 v = fget 1 1 false v := by kernel_rfl
theorem fa34_2 (v : V) : vFieldAddr Try.prog 34 2 v = faddr 2 v := by kernel_rfl
theorem fg34_2 (s : St) (v : V) : vField Try.prog s 34 2 v = fget 2 1 false v := by kernel_rfl
theorem sz35 : szOf Try.prog 35 = 3 := by kernel_rfl
theorem ag35 : isAgg Try.prog 35 = true := by kernel_rfl
theorem ze35 : zero Try.prog 35 = some [V.str ⟨#[]⟩, V.str ⟨#[]⟩, V.str ⟨#[]⟩] := by kernel_rfl
theorem la35 : layOf Try.prog 35 = some [(9, 0, 1), (9, 1, 1), (9, 2, 1)] := by kernel_rfl
theorem bd35 (H : Hint) (d : Nat) (ty : TypeId) (ps : Array (Nat × Operand)) (s : St) : evV Try.prog H d ty (.build 35 ps) s = aggO (buildL Try.prog [(9, 0, 1), (9, 1, 1), (9, 2, 1)] s [V.str ⟨#[]⟩, V.str ⟨#[]⟩, V.str ⟨#[]⟩] ps.toList) := build_lay la35 ze35
theorem xb35 (H : Hint) (d : Nat) (ty : TypeId) (ps : Array (Nat × Operand)) (pos : String) (aft : Array Edge) (g : Option (Nat × Bool)) : isX Try.prog H { dst := some d, op := .build 35 ps, type := ty, pos := pos, after := aft, guard := g } = !memN d H.arrs := by kernel_rfl
theorem fa35_0 (v : V) : vFieldAddr Try.prog 35 0 v = faddr 0 v := by kernel_rfl
theorem fg35_0 (s : St) (v : V) : vField Try.prog s 35 0 v = fget 0 1 false v := by kernel_rfl
theorem fa35_1 (v : V) : vFieldAddr Try.prog 35 1 v = faddr 1 v := by kernel_rfl
theorem fg35_1 (s : St) (v : V) : vField Try.prog s 35 1 v = fget 1 1 false v := by kernel_rfl
theorem fa35_2 (v : V) : vFieldAddr Try.prog 35 2 v = faddr 2 v := by kernel_rfl
theorem fg35_2 (s : St) (v : V) : vField Try.prog s 35 2 v = fget 2 1 false v := by kernel_rfl
theorem ev35 (x0 y0 : ByteArray) (x1 y1 : ByteArray) (x2 y2 : ByteArray) : eqV Try.prog 35 (.agg [V.str x0, V.str x1, V.str x2]) (.agg [V.str y0, V.str y1, V.str y2]) = some ((x0.toList == y0.toList) && ((x1.toList == y1.toList) && ((x2.toList == y2.toList) && true))) := by kernel_rfl
theorem eg35 : Try.prog.eqGuardType Try.prog.depth 35 = false := by kernel_rfl
theorem sz36 : szOf Try.prog 36 = 1 := by kernel_rfl
theorem ag36 : isAgg Try.prog 36 = false := by kernel_rfl
theorem ze36 : zero Try.prog 36 = some [V.nilfn] := by kernel_rfl
theorem sz37 : szOf Try.prog 37 = 1 := by kernel_rfl
theorem ag37 : isAgg Try.prog 37 = false := by kernel_rfl
theorem ze37 : zero Try.prog 37 = some [V.nilfn] := by kernel_rfl
theorem sz38 : szOf Try.prog 38 = 3 := by kernel_rfl
theorem ag38 : isAgg Try.prog 38 = true := by kernel_rfl
theorem ze38 : zero Try.prog 38 = some [V.str ⟨#[]⟩, V.str ⟨#[]⟩, V.str ⟨#[]⟩] := by kernel_rfl
theorem la38 : layOf Try.prog 38 = some [(9, 0, 1), (9, 1, 1), (9, 2, 1)] := by kernel_rfl
theorem bd38 (H : Hint) (d : Nat) (ty : TypeId) (ps : Array (Nat × Operand)) (s : St) : evV Try.prog H d ty (.build 38 ps) s = aggO (buildL Try.prog [(9, 0, 1), (9, 1, 1), (9, 2, 1)] s [V.str ⟨#[]⟩, V.str ⟨#[]⟩, V.str ⟨#[]⟩] ps.toList) := build_lay la38 ze38
theorem xb38 (H : Hint) (d : Nat) (ty : TypeId) (ps : Array (Nat × Operand)) (pos : String) (aft : Array Edge) (g : Option (Nat × Bool)) : isX Try.prog H { dst := some d, op := .build 38 ps, type := ty, pos := pos, after := aft, guard := g } = !memN d H.arrs := by kernel_rfl
theorem fa38_0 (v : V) : vFieldAddr Try.prog 38 0 v = faddr 0 v := by kernel_rfl
theorem fg38_0 (s : St) (v : V) : vField Try.prog s 38 0 v = fget 0 1 false v := by kernel_rfl
theorem fa38_1 (v : V) : vFieldAddr Try.prog 38 1 v = faddr 1 v := by kernel_rfl
theorem fg38_1 (s : St) (v : V) : vField Try.prog s 38 1 v = fget 1 1 false v := by kernel_rfl
theorem fa38_2 (v : V) : vFieldAddr Try.prog 38 2 v = faddr 2 v := by kernel_rfl
theorem fg38_2 (s : St) (v : V) : vField Try.prog s 38 2 v = fget 2 1 false v := by kernel_rfl
theorem ev38 (x0 y0 : ByteArray) (x1 y1 : ByteArray) (x2 y2 : ByteArray) : eqV Try.prog 38 (.agg [V.str x0, V.str x1, V.str x2]) (.agg [V.str y0, V.str y1, V.str y2]) = some ((x0.toList == y0.toList) && ((x1.toList == y1.toList) && ((x2.toList == y2.toList) && true))) := by kernel_rfl
theorem eg38 : Try.prog.eqGuardType Try.prog.depth 38 = false := by kernel_rfl
theorem sz39 : szOf Try.prog 39 = 1 := by kernel_rfl
theorem ag39 : isAgg Try.prog 39 = false := by kernel_rfl
theorem ze39 : zero Try.prog 39 = some [V.nilfn] := by kernel_rfl
theorem sz40 : szOf Try.prog 40 = 1 := by kernel_rfl
theorem ag40 : isAgg Try.prog 40 = false := by kernel_rfl
theorem ze40 : zero Try.prog 40 = some [V.nilfn] := by kernel_rfl
theorem sz41 : szOf Try.prog 41 = 2 := by kernel_rfl
theorem ag41 : isAgg Try.prog 41 = true := by kernel_rfl
theorem ze41 : zero Try.prog 41 = some [V.str ⟨#[]⟩, V.str ⟨#[]⟩] := by kernel_rfl
theorem la41 : layOf Try.prog 41 = some [(9, 0, 1), (9, 1, 1)] := by kernel_rfl
theorem bd41 (H : Hint) (d : Nat) (ty : TypeId) (ps : Array (Nat × Operand)) (s : St) : evV Try.prog H d ty (.build 41 ps) s = aggO (buildL Try.prog [(9, 0, 1), (9, 1, 1)] s [V.str ⟨#[]⟩, V.str ⟨#[]⟩] ps.toList) := build_lay la41 ze41
theorem xb41 (H : Hint) (d : Nat) (ty : TypeId) (ps : Array (Nat × Operand)) (pos : String) (aft : Array Edge) (g : Option (Nat × Bool)) : isX Try.prog H { dst := some d, op := .build 41 ps, type := ty, pos := pos, after := aft, guard := g } = !memN d H.arrs := by kernel_rfl
theorem fa41_0 (v : V) : vFieldAddr Try.prog 41 0 v = faddr 0 v := by kernel_rfl
theorem fg41_0 (s : St) (v : V) : vField Try.prog s 41 0 v = fget 0 1 false v := by kernel_rfl
theorem fa41_1 (v : V) : vFieldAddr Try.prog 41 1 v = faddr 1 v := by kernel_rfl
theorem fg41_1 (s : St) (v : V) : vField Try.prog s 41 1 v = fget 1 1 false v := by kernel_rfl
theorem sz42 : szOf Try.prog 42 = 2 := by kernel_rfl
theorem ag42 : isAgg Try.prog 42 = true := by kernel_rfl
theorem ze42 : zero Try.prog 42 = some [V.str ⟨#[]⟩, V.str ⟨#[]⟩] := by kernel_rfl
theorem la42 : layOf Try.prog 42 = some [(9, 0, 1), (9, 1, 1)] := by kernel_rfl
theorem bd42 (H : Hint) (d : Nat) (ty : TypeId) (ps : Array (Nat × Operand)) (s : St) : evV Try.prog H d ty (.build 42 ps) s = aggO (buildL Try.prog [(9, 0, 1), (9, 1, 1)] s [V.str ⟨#[]⟩, V.str ⟨#[]⟩] ps.toList) := build_lay la42 ze42
theorem xb42 (H : Hint) (d : Nat) (ty : TypeId) (ps : Array (Nat × Operand)) (pos : String) (aft : Array Edge) (g : Option (Nat × Bool)) : isX Try.prog H { dst := some d, op := .build 42 ps, type := ty, pos := pos, after := aft, guard := g } = !memN d H.arrs := by kernel_rfl
theorem fa42_0 (v : V) : vFieldAddr Try.prog 42 0 v = faddr 0 v := by kernel_rfl
theorem fg42_0 (s : St) (v : V) : vField Try.prog s 42 0 v = fget 0 1 false v := by kernel_rfl
theorem fa42_1 (v : V) : vFieldAddr Try.prog 42 1 v = faddr 1 v := by kernel_rfl
theorem fg42_1 (s : St) (v : V) : vField Try.prog s 42 1 v = fget 1 1 false v := by kernel_rfl
theorem ev42 (x0 y0 : ByteArray) (x1 y1 : ByteArray) : eqV Try.prog 42 (.agg [V.str x0, V.str x1]) (.agg [V.str y0, V.str y1]) = some ((x0.toList == y0.toList) && ((x1.toList == y1.toList) && true)) := by kernel_rfl
theorem eg42 : Try.prog.eqGuardType Try.prog.depth 42 = false := by kernel_rfl
theorem u43 : Try.prog.underlying 43 = some (.slice 3) := by kernel_rfl
theorem sz43 : szOf Try.prog 43 = 1 := by kernel_rfl
theorem ag43 : isAgg Try.prog 43 = false := by kernel_rfl
theorem eo43 : elemOf Try.prog 43 = 3 := by kernel_rfl
theorem es43 : elemSz Try.prog 43 = 1 := by kernel_rfl
theorem gr43 : growB Try.prog 43 = true := by kernel_rfl
theorem df43 : dflt Try.prog 43 = V.int .i64 0 := by kernel_rfl
theorem ze43 : zero Try.prog 43 = some [V.slc true 1 []] := by kernel_rfl
theorem sz44 : szOf Try.prog 44 = 3 := by kernel_rfl
theorem ag44 : isAgg Try.prog 44 = true := by kernel_rfl
theorem ze44 : zero Try.prog 44 = some [V.slc true 1 [], V.slc true 1 [], V.slc true 1 []] := by kernel_rfl
theorem la44 : layOf Try.prog 44 = some [(23, 0, 1), (43, 1, 1), (23, 2, 1)] := by kernel_rfl
theorem bd44 (H : Hint) (d : Nat) (ty : TypeId) (ps : Array (Nat × Operand)) (s : St) : evV Try.prog H d ty (.build 44 ps) s = aggO (buildL Try.prog [(23, 0, 1), (43, 1, 1), (23, 2, 1)] s [V.slc true 1 [], V.slc true 1 [], V.slc true 1 []] ps.toList) := build_lay la44 ze44
theorem xb44 (H : Hint) (d : Nat) (ty : TypeId) (ps : Array (Nat × Operand)) (pos : String) (aft : Array Edge) (g : Option (Nat × Bool)) : isX Try.prog H { dst := some d, op := .build 44 ps, type := ty, pos := pos, after := aft, guard := g } = !memN d H.arrs := by kernel_rfl
theorem fa44_0 (v : V) : vFieldAddr Try.prog 44 0 v = faddr 0 v := by kernel_rfl
theorem fg44_0 (s : St) (v : V) : vField Try.prog s 44 0 v = fget 0 1 false v := by kernel_rfl
theorem fa44_1 (v : V) : vFieldAddr Try.prog 44 1 v = faddr 1 v := by kernel_rfl
theorem fg44_1 (s : St) (v : V) : vField Try.prog s 44 1 v = fget 1 1 false v := by kernel_rfl
theorem fa44_2 (v : V) : vFieldAddr Try.prog 44 2 v = faddr 2 v := by kernel_rfl
theorem fg44_2 (s : St) (v : V) : vField Try.prog s 44 2 v = fget 2 1 false v := by kernel_rfl
theorem sz45 : szOf Try.prog 45 = 3 := by kernel_rfl
theorem ag45 : isAgg Try.prog 45 = true := by kernel_rfl
theorem ze45 : zero Try.prog 45 = some [V.slc true 1 [], V.slc true 1 [], V.slc true 1 []] := by kernel_rfl
theorem la45 : layOf Try.prog 45 = some [(23, 0, 1), (43, 1, 1), (23, 2, 1)] := by kernel_rfl
theorem bd45 (H : Hint) (d : Nat) (ty : TypeId) (ps : Array (Nat × Operand)) (s : St) : evV Try.prog H d ty (.build 45 ps) s = aggO (buildL Try.prog [(23, 0, 1), (43, 1, 1), (23, 2, 1)] s [V.slc true 1 [], V.slc true 1 [], V.slc true 1 []] ps.toList) := build_lay la45 ze45
theorem xb45 (H : Hint) (d : Nat) (ty : TypeId) (ps : Array (Nat × Operand)) (pos : String) (aft : Array Edge) (g : Option (Nat × Bool)) : isX Try.prog H { dst := some d, op := .build 45 ps, type := ty, pos := pos, after := aft, guard := g } = !memN d H.arrs := by kernel_rfl
theorem fa45_0 (v : V) : vFieldAddr Try.prog 45 0 v = faddr 0 v := by kernel_rfl
theorem fg45_0 (s : St) (v : V) : vField Try.prog s 45 0 v = fget 0 1 false v := by kernel_rfl
theorem fa45_1 (v : V) : vFieldAddr Try.prog 45 1 v = faddr 1 v := by kernel_rfl
theorem fg45_1 (s : St) (v : V) : vField Try.prog s 45 1 v = fget 1 1 false v := by kernel_rfl
theorem fa45_2 (v : V) : vFieldAddr Try.prog 45 2 v = faddr 2 v := by kernel_rfl
theorem fg45_2 (s : St) (v : V) : vField Try.prog s 45 2 v = fget 2 1 false v := by kernel_rfl
theorem sz46 : szOf Try.prog 46 = 6 := by kernel_rfl
theorem ag46 : isAgg Try.prog 46 = true := by kernel_rfl
theorem ze46 : zero Try.prog 46 = some [V.str ⟨#[]⟩, V.str ⟨#[]⟩, V.slc true 1 [], V.slc true 1 [], V.slc true 1 [], V.slc true 1 []] := by kernel_rfl
theorem la46 : layOf Try.prog 46 = some [(42, 0, 2), (45, 2, 3), (23, 5, 1)] := by kernel_rfl
theorem bd46 (H : Hint) (d : Nat) (ty : TypeId) (ps : Array (Nat × Operand)) (s : St) : evV Try.prog H d ty (.build 46 ps) s = aggO (buildL Try.prog [(42, 0, 2), (45, 2, 3), (23, 5, 1)] s [V.str ⟨#[]⟩, V.str ⟨#[]⟩, V.slc true 1 [], V.slc true 1 [], V.slc true 1 [], V.slc true 1 []] ps.toList) := build_lay la46 ze46
theorem xb46 (H : Hint) (d : Nat) (ty : TypeId) (ps : Array (Nat × Operand)) (pos : String) (aft : Array Edge) (g : Option (Nat × Bool)) : isX Try.prog H { dst := some d, op := .build 46 ps, type := ty, pos := pos, after := aft, guard := g } = !memN d H.arrs := by kernel_rfl
theorem fa46_0 (v : V) : vFieldAddr Try.prog 46 0 v = faddr 0 v := by kernel_rfl
theorem fg46_0 (s : St) (v : V) : vField Try.prog s 46 0 v = fget 0 2 true v := by kernel_rfl
theorem fa46_1 (v : V) : vFieldAddr Try.prog 46 1 v = faddr 2 v := by kernel_rfl
theorem fg46_1 (s : St) (v : V) : vField Try.prog s 46 1 v = fget 2 3 true v := by kernel_rfl
theorem fa46_2 (v : V) : vFieldAddr Try.prog 46 2 v = faddr 5 v := by kernel_rfl
theorem fg46_2 (s : St) (v : V) : vField Try.prog s 46 2 v = fget 5 1 false v := by kernel_rfl
theorem sz47 : szOf Try.prog 47 = 6 := by kernel_rfl
theorem ag47 : isAgg Try.prog 47 = true := by kernel_rfl
theorem ze47 : zero Try.prog 47 = some [V.str ⟨#[]⟩, V.str ⟨#[]⟩, V.slc true 1 [], V.slc true 1 [], V.slc true 1 [], V.slc true 1 []] := by kernel_rfl
theorem la47 : layOf Try.prog 47 = some [(42, 0, 2), (45, 2, 3), (23, 5, 1)] := by kernel_rfl
theorem bd47 (H : Hint) (d : Nat) (ty : TypeId) (ps : Array (Nat × Operand)) (s : St) : evV Try.prog H d ty (.build 47 ps) s = aggO (buildL Try.prog [(42, 0, 2), (45, 2, 3), (23, 5, 1)] s [V.str ⟨#[]⟩, V.str ⟨#[]⟩, V.slc true 1 [], V.slc true 1 [], V.slc true 1 [], V.slc true 1 []] ps.toList) := build_lay la47 ze47
theorem xb47 (H : Hint) (d : Nat) (ty : TypeId) (ps : Array (Nat × Operand)) (pos : String) (aft : Array Edge) (g : Option (Nat × Bool)) : isX Try.prog H { dst := some d, op := .build 47 ps, type := ty, pos := pos, after := aft, guard := g } = !memN d H.arrs := by kernel_rfl
theorem fa47_0 (v : V) : vFieldAddr Try.prog 47 0 v = faddr 0 v := by kernel_rfl
theorem fg47_0 (s : St) (v : V) : vField Try.prog s 47 0 v = fget 0 2 true v := by kernel_rfl
theorem fa47_1 (v : V) : vFieldAddr Try.prog 47 1 v = faddr 2 v := by kernel_rfl
theorem fg47_1 (s : St) (v : V) : vField Try.prog s 47 1 v = fget 2 3 true v := by kernel_rfl
theorem fa47_2 (v : V) : vFieldAddr Try.prog 47 2 v = faddr 5 v := by kernel_rfl
theorem fg47_2 (s : St) (v : V) : vField Try.prog s 47 2 v = fget 5 1 false v := by kernel_rfl
theorem sz48 : szOf Try.prog 48 = 3 := by kernel_rfl
theorem ag48 : isAgg Try.prog 48 = true := by kernel_rfl
theorem ze48 : zero Try.prog 48 = some [V.str ⟨#[]⟩, V.str ⟨#[]⟩, V.slc true 1 []] := by kernel_rfl
theorem la48 : layOf Try.prog 48 = some [(9, 0, 1), (9, 1, 1), (43, 2, 1)] := by kernel_rfl
theorem bd48 (H : Hint) (d : Nat) (ty : TypeId) (ps : Array (Nat × Operand)) (s : St) : evV Try.prog H d ty (.build 48 ps) s = aggO (buildL Try.prog [(9, 0, 1), (9, 1, 1), (43, 2, 1)] s [V.str ⟨#[]⟩, V.str ⟨#[]⟩, V.slc true 1 []] ps.toList) := build_lay la48 ze48
theorem xb48 (H : Hint) (d : Nat) (ty : TypeId) (ps : Array (Nat × Operand)) (pos : String) (aft : Array Edge) (g : Option (Nat × Bool)) : isX Try.prog H { dst := some d, op := .build 48 ps, type := ty, pos := pos, after := aft, guard := g } = !memN d H.arrs := by kernel_rfl
theorem fa48_0 (v : V) : vFieldAddr Try.prog 48 0 v = faddr 0 v := by kernel_rfl
theorem fg48_0 (s : St) (v : V) : vField Try.prog s 48 0 v = fget 0 1 false v := by kernel_rfl
theorem fa48_1 (v : V) : vFieldAddr Try.prog 48 1 v = faddr 1 v := by kernel_rfl
theorem fg48_1 (s : St) (v : V) : vField Try.prog s 48 1 v = fget 1 1 false v := by kernel_rfl
theorem fa48_2 (v : V) : vFieldAddr Try.prog 48 2 v = faddr 2 v := by kernel_rfl
theorem fg48_2 (s : St) (v : V) : vField Try.prog s 48 2 v = fget 2 1 false v := by kernel_rfl
theorem sz49 : szOf Try.prog 49 = 3 := by kernel_rfl
theorem ag49 : isAgg Try.prog 49 = true := by kernel_rfl
theorem ze49 : zero Try.prog 49 = some [V.str ⟨#[]⟩, V.str ⟨#[]⟩, V.slc true 1 []] := by kernel_rfl
theorem la49 : layOf Try.prog 49 = some [(9, 0, 1), (9, 1, 1), (43, 2, 1)] := by kernel_rfl
theorem bd49 (H : Hint) (d : Nat) (ty : TypeId) (ps : Array (Nat × Operand)) (s : St) : evV Try.prog H d ty (.build 49 ps) s = aggO (buildL Try.prog [(9, 0, 1), (9, 1, 1), (43, 2, 1)] s [V.str ⟨#[]⟩, V.str ⟨#[]⟩, V.slc true 1 []] ps.toList) := build_lay la49 ze49
theorem xb49 (H : Hint) (d : Nat) (ty : TypeId) (ps : Array (Nat × Operand)) (pos : String) (aft : Array Edge) (g : Option (Nat × Bool)) : isX Try.prog H { dst := some d, op := .build 49 ps, type := ty, pos := pos, after := aft, guard := g } = !memN d H.arrs := by kernel_rfl
theorem fa49_0 (v : V) : vFieldAddr Try.prog 49 0 v = faddr 0 v := by kernel_rfl
theorem fg49_0 (s : St) (v : V) : vField Try.prog s 49 0 v = fget 0 1 false v := by kernel_rfl
theorem fa49_1 (v : V) : vFieldAddr Try.prog 49 1 v = faddr 1 v := by kernel_rfl
theorem fg49_1 (s : St) (v : V) : vField Try.prog s 49 1 v = fget 1 1 false v := by kernel_rfl
theorem fa49_2 (v : V) : vFieldAddr Try.prog 49 2 v = faddr 2 v := by kernel_rfl
theorem fg49_2 (s : St) (v : V) : vField Try.prog s 49 2 v = fget 2 1 false v := by kernel_rfl
theorem sz50 : szOf Try.prog 50 = 1 := by kernel_rfl
theorem ag50 : isAgg Try.prog 50 = false := by kernel_rfl
theorem ze50 : zero Try.prog 50 = some [V.nilfn] := by kernel_rfl
theorem sz51 : szOf Try.prog 51 = 1 := by kernel_rfl
theorem ag51 : isAgg Try.prog 51 = false := by kernel_rfl
theorem ze51 : zero Try.prog 51 = some [V.nilfn] := by kernel_rfl
theorem u52 : Try.prog.underlying 52 = some (.slice 109) := by kernel_rfl
theorem sz52 : szOf Try.prog 52 = 1 := by kernel_rfl
theorem ag52 : isAgg Try.prog 52 = false := by kernel_rfl
theorem eo52 : elemOf Try.prog 52 = 109 := by kernel_rfl
theorem es52 : elemSz Try.prog 52 = 5 := by kernel_rfl
theorem gr52 : growB Try.prog 52 = true := by kernel_rfl
theorem df52 : dflt Try.prog 52 = V.agg [V.int .u8 0, V.str ⟨#[]⟩, V.str ⟨#[]⟩, V.str ⟨#[]⟩, V.slc false 1 []] := by kernel_rfl
theorem ze52 : zero Try.prog 52 = some [V.slc true 5 []] := by kernel_rfl
theorem sz53 : szOf Try.prog 53 = 1 := by kernel_rfl
theorem ag53 : isAgg Try.prog 53 = false := by kernel_rfl
theorem ze53 : zero Try.prog 53 = some [V.nilfn] := by kernel_rfl
theorem sz54 : szOf Try.prog 54 = 2 := by kernel_rfl
theorem ag54 : isAgg Try.prog 54 = true := by kernel_rfl
theorem ze54 : zero Try.prog 54 = some [V.str ⟨#[]⟩, V.str ⟨#[]⟩] := by kernel_rfl
theorem la54 : layOf Try.prog 54 = some [(9, 0, 1), (9, 1, 1)] := by kernel_rfl
theorem bd54 (H : Hint) (d : Nat) (ty : TypeId) (ps : Array (Nat × Operand)) (s : St) : evV Try.prog H d ty (.build 54 ps) s = aggO (buildL Try.prog [(9, 0, 1), (9, 1, 1)] s [V.str ⟨#[]⟩, V.str ⟨#[]⟩] ps.toList) := build_lay la54 ze54
theorem xb54 (H : Hint) (d : Nat) (ty : TypeId) (ps : Array (Nat × Operand)) (pos : String) (aft : Array Edge) (g : Option (Nat × Bool)) : isX Try.prog H { dst := some d, op := .build 54 ps, type := ty, pos := pos, after := aft, guard := g } = !memN d H.arrs := by kernel_rfl
theorem fa54_0 (v : V) : vFieldAddr Try.prog 54 0 v = faddr 0 v := by kernel_rfl
theorem fg54_0 (s : St) (v : V) : vField Try.prog s 54 0 v = fget 0 1 false v := by kernel_rfl
theorem fa54_1 (v : V) : vFieldAddr Try.prog 54 1 v = faddr 1 v := by kernel_rfl
theorem fg54_1 (s : St) (v : V) : vField Try.prog s 54 1 v = fget 1 1 false v := by kernel_rfl
theorem ev54 (x0 y0 : ByteArray) (x1 y1 : ByteArray) : eqV Try.prog 54 (.agg [V.str x0, V.str x1]) (.agg [V.str y0, V.str y1]) = some ((x0.toList == y0.toList) && ((x1.toList == y1.toList) && true)) := by kernel_rfl
theorem eg54 : Try.prog.eqGuardType Try.prog.depth 54 = false := by kernel_rfl
theorem sz55 : szOf Try.prog 55 = 3 := by kernel_rfl
theorem ag55 : isAgg Try.prog 55 = true := by kernel_rfl
theorem ze55 : zero Try.prog 55 = some [V.slc true 1 [], V.slc true 1 [], V.slc true 1 []] := by kernel_rfl
theorem la55 : layOf Try.prog 55 = some [(23, 0, 1), (43, 1, 1), (23, 2, 1)] := by kernel_rfl
theorem bd55 (H : Hint) (d : Nat) (ty : TypeId) (ps : Array (Nat × Operand)) (s : St) : evV Try.prog H d ty (.build 55 ps) s = aggO (buildL Try.prog [(23, 0, 1), (43, 1, 1), (23, 2, 1)] s [V.slc true 1 [], V.slc true 1 [], V.slc true 1 []] ps.toList) := build_lay la55 ze55
theorem xb55 (H : Hint) (d : Nat) (ty : TypeId) (ps : Array (Nat × Operand)) (pos : String) (aft : Array Edge) (g : Option (Nat × Bool)) : isX Try.prog H { dst := some d, op := .build 55 ps, type := ty, pos := pos, after := aft, guard := g } = !memN d H.arrs := by kernel_rfl
theorem fa55_0 (v : V) : vFieldAddr Try.prog 55 0 v = faddr 0 v := by kernel_rfl
theorem fg55_0 (s : St) (v : V) : vField Try.prog s 55 0 v = fget 0 1 false v := by kernel_rfl
theorem fa55_1 (v : V) : vFieldAddr Try.prog 55 1 v = faddr 1 v := by kernel_rfl
theorem fg55_1 (s : St) (v : V) : vField Try.prog s 55 1 v = fget 1 1 false v := by kernel_rfl
theorem fa55_2 (v : V) : vFieldAddr Try.prog 55 2 v = faddr 2 v := by kernel_rfl
theorem fg55_2 (s : St) (v : V) : vField Try.prog s 55 2 v = fget 2 1 false v := by kernel_rfl
theorem sz56 : szOf Try.prog 56 = 6 := by kernel_rfl
theorem ag56 : isAgg Try.prog 56 = true := by kernel_rfl
theorem ze56 : zero Try.prog 56 = some [V.str ⟨#[]⟩, V.str ⟨#[]⟩, V.slc true 1 [], V.slc true 1 [], V.slc true 1 [], V.slc true 1 []] := by kernel_rfl
theorem la56 : layOf Try.prog 56 = some [(54, 0, 2), (55, 2, 3), (23, 5, 1)] := by kernel_rfl
theorem bd56 (H : Hint) (d : Nat) (ty : TypeId) (ps : Array (Nat × Operand)) (s : St) : evV Try.prog H d ty (.build 56 ps) s = aggO (buildL Try.prog [(54, 0, 2), (55, 2, 3), (23, 5, 1)] s [V.str ⟨#[]⟩, V.str ⟨#[]⟩, V.slc true 1 [], V.slc true 1 [], V.slc true 1 [], V.slc true 1 []] ps.toList) := build_lay la56 ze56
theorem xb56 (H : Hint) (d : Nat) (ty : TypeId) (ps : Array (Nat × Operand)) (pos : String) (aft : Array Edge) (g : Option (Nat × Bool)) : isX Try.prog H { dst := some d, op := .build 56 ps, type := ty, pos := pos, after := aft, guard := g } = !memN d H.arrs := by kernel_rfl
theorem fa56_0 (v : V) : vFieldAddr Try.prog 56 0 v = faddr 0 v := by kernel_rfl
theorem fg56_0 (s : St) (v : V) : vField Try.prog s 56 0 v = fget 0 2 true v := by kernel_rfl
theorem fa56_1 (v : V) : vFieldAddr Try.prog 56 1 v = faddr 2 v := by kernel_rfl
theorem fg56_1 (s : St) (v : V) : vField Try.prog s 56 1 v = fget 2 3 true v := by kernel_rfl
theorem fa56_2 (v : V) : vFieldAddr Try.prog 56 2 v = faddr 5 v := by kernel_rfl
theorem fg56_2 (s : St) (v : V) : vField Try.prog s 56 2 v = fget 5 1 false v := by kernel_rfl
theorem sz57 : szOf Try.prog 57 = 6 := by kernel_rfl
theorem ag57 : isAgg Try.prog 57 = true := by kernel_rfl
theorem ze57 : zero Try.prog 57 = some [V.str ⟨#[]⟩, V.str ⟨#[]⟩, V.slc true 1 [], V.slc true 1 [], V.slc true 1 [], V.slc true 1 []] := by kernel_rfl
theorem la57 : layOf Try.prog 57 = some [(54, 0, 2), (55, 2, 3), (23, 5, 1)] := by kernel_rfl
theorem bd57 (H : Hint) (d : Nat) (ty : TypeId) (ps : Array (Nat × Operand)) (s : St) : evV Try.prog H d ty (.build 57 ps) s = aggO (buildL Try.prog [(54, 0, 2), (55, 2, 3), (23, 5, 1)] s [V.str ⟨#[]⟩, V.str ⟨#[]⟩, V.slc true 1 [], V.slc true 1 [], V.slc true 1 [], V.slc true 1 []] ps.toList) := build_lay la57 ze57
theorem xb57 (H : Hint) (d : Nat) (ty : TypeId) (ps : Array (Nat × Operand)) (pos : String) (aft : Array Edge) (g : Option (Nat × Bool)) : isX Try.prog H { dst := some d, op := .build 57 ps, type := ty, pos := pos, after := aft, guard := g } = !memN d H.arrs := by kernel_rfl
theorem fa57_0 (v : V) : vFieldAddr Try.prog 57 0 v = faddr 0 v := by kernel_rfl
theorem fg57_0 (s : St) (v : V) : vField Try.prog s 57 0 v = fget 0 2 true v := by kernel_rfl
theorem fa57_1 (v : V) : vFieldAddr Try.prog 57 1 v = faddr 2 v := by kernel_rfl
theorem fg57_1 (s : St) (v : V) : vField Try.prog s 57 1 v = fget 2 3 true v := by kernel_rfl
theorem fa57_2 (v : V) : vFieldAddr Try.prog 57 2 v = faddr 5 v := by kernel_rfl
theorem fg57_2 (s : St) (v : V) : vField Try.prog s 57 2 v = fget 5 1 false v := by kernel_rfl
theorem sz58 : szOf Try.prog 58 = 1 := by kernel_rfl
theorem ag58 : isAgg Try.prog 58 = false := by kernel_rfl
theorem ze58 : zero Try.prog 58 = some [V.nilfn] := by kernel_rfl
theorem sz59 : szOf Try.prog 59 = 3 := by kernel_rfl
theorem ag59 : isAgg Try.prog 59 = true := by kernel_rfl
theorem ze59 : zero Try.prog 59 = some [V.str ⟨#[]⟩, V.str ⟨#[]⟩, V.slc true 1 []] := by kernel_rfl
theorem la59 : layOf Try.prog 59 = some [(9, 0, 1), (9, 1, 1), (43, 2, 1)] := by kernel_rfl
theorem bd59 (H : Hint) (d : Nat) (ty : TypeId) (ps : Array (Nat × Operand)) (s : St) : evV Try.prog H d ty (.build 59 ps) s = aggO (buildL Try.prog [(9, 0, 1), (9, 1, 1), (43, 2, 1)] s [V.str ⟨#[]⟩, V.str ⟨#[]⟩, V.slc true 1 []] ps.toList) := build_lay la59 ze59
theorem xb59 (H : Hint) (d : Nat) (ty : TypeId) (ps : Array (Nat × Operand)) (pos : String) (aft : Array Edge) (g : Option (Nat × Bool)) : isX Try.prog H { dst := some d, op := .build 59 ps, type := ty, pos := pos, after := aft, guard := g } = !memN d H.arrs := by kernel_rfl
theorem fa59_0 (v : V) : vFieldAddr Try.prog 59 0 v = faddr 0 v := by kernel_rfl
theorem fg59_0 (s : St) (v : V) : vField Try.prog s 59 0 v = fget 0 1 false v := by kernel_rfl
theorem fa59_1 (v : V) : vFieldAddr Try.prog 59 1 v = faddr 1 v := by kernel_rfl
theorem fg59_1 (s : St) (v : V) : vField Try.prog s 59 1 v = fget 1 1 false v := by kernel_rfl
theorem fa59_2 (v : V) : vFieldAddr Try.prog 59 2 v = faddr 2 v := by kernel_rfl
theorem fg59_2 (s : St) (v : V) : vField Try.prog s 59 2 v = fget 2 1 false v := by kernel_rfl
theorem sz60 : szOf Try.prog 60 = 1 := by kernel_rfl
theorem ag60 : isAgg Try.prog 60 = false := by kernel_rfl
theorem ze60 : zero Try.prog 60 = some [V.nilfn] := by kernel_rfl
theorem sz61 : szOf Try.prog 61 = 1 := by kernel_rfl
theorem ag61 : isAgg Try.prog 61 = false := by kernel_rfl
theorem ze61 : zero Try.prog 61 = some [V.nilfn] := by kernel_rfl
theorem sz62 : szOf Try.prog 62 = 1 := by kernel_rfl
theorem ag62 : isAgg Try.prog 62 = false := by kernel_rfl
theorem ze62 : zero Try.prog 62 = some [V.nilfn] := by kernel_rfl
theorem sz63 : szOf Try.prog 63 = 1 := by kernel_rfl
theorem ag63 : isAgg Try.prog 63 = false := by kernel_rfl
theorem ze63 : zero Try.prog 63 = some [V.nilfn] := by kernel_rfl
theorem sz64 : szOf Try.prog 64 = 1 := by kernel_rfl
theorem ag64 : isAgg Try.prog 64 = false := by kernel_rfl
theorem ze64 : zero Try.prog 64 = some [V.nilfn] := by kernel_rfl
theorem sz65 : szOf Try.prog 65 = 1 := by kernel_rfl
theorem ag65 : isAgg Try.prog 65 = false := by kernel_rfl
theorem ze65 : zero Try.prog 65 = some [V.nilfn] := by kernel_rfl
theorem sz66 : szOf Try.prog 66 = 1 := by kernel_rfl
theorem ag66 : isAgg Try.prog 66 = false := by kernel_rfl
theorem ze66 : zero Try.prog 66 = some [V.nilfn] := by kernel_rfl
theorem sz67 : szOf Try.prog 67 = 1 := by kernel_rfl
theorem ag67 : isAgg Try.prog 67 = false := by kernel_rfl
theorem ze67 : zero Try.prog 67 = some [V.nilfn] := by kernel_rfl
theorem u68 : Try.prog.underlying 68 = some (.slice 161) := by kernel_rfl
theorem sz68 : szOf Try.prog 68 = 1 := by kernel_rfl
theorem ag68 : isAgg Try.prog 68 = false := by kernel_rfl
theorem eo68 : elemOf Try.prog 68 = 161 := by kernel_rfl
theorem es68 : elemSz Try.prog 68 = 8 := by kernel_rfl
theorem gr68 : growB Try.prog 68 = true := by kernel_rfl
theorem df68 : dflt Try.prog 68 = V.agg [V.int .i64 0, V.str ⟨#[]⟩, V.str ⟨#[]⟩, V.int .i64 0, V.str ⟨#[]⟩, V.slc false 3 [], V.slc false 1 [], V.int .i64 0] := by kernel_rfl
theorem ze68 : zero Try.prog 68 = some [V.slc true 8 []] := by kernel_rfl
theorem sz69 : szOf Try.prog 69 = 1 := by kernel_rfl
theorem ag69 : isAgg Try.prog 69 = true := by kernel_rfl
theorem ze69 : zero Try.prog 69 = some [V.slc true 8 []] := by kernel_rfl
theorem la69 : layOf Try.prog 69 = some [(68, 0, 1)] := by kernel_rfl
theorem bd69 (H : Hint) (d : Nat) (ty : TypeId) (ps : Array (Nat × Operand)) (s : St) : evV Try.prog H d ty (.build 69 ps) s = aggO (buildL Try.prog [(68, 0, 1)] s [V.slc true 8 []] ps.toList) := build_lay la69 ze69
theorem xb69 (H : Hint) (d : Nat) (ty : TypeId) (ps : Array (Nat × Operand)) (pos : String) (aft : Array Edge) (g : Option (Nat × Bool)) : isX Try.prog H { dst := some d, op := .build 69 ps, type := ty, pos := pos, after := aft, guard := g } = !memN d H.arrs := by kernel_rfl
theorem fa69_0 (v : V) : vFieldAddr Try.prog 69 0 v = faddr 0 v := by kernel_rfl
theorem fg69_0 (s : St) (v : V) : vField Try.prog s 69 0 v = fget 0 1 false v := by kernel_rfl
theorem sz70 : szOf Try.prog 70 = 1 := by kernel_rfl
theorem ag70 : isAgg Try.prog 70 = true := by kernel_rfl
theorem ze70 : zero Try.prog 70 = some [V.slc true 8 []] := by kernel_rfl
theorem la70 : layOf Try.prog 70 = some [(68, 0, 1)] := by kernel_rfl
theorem bd70 (H : Hint) (d : Nat) (ty : TypeId) (ps : Array (Nat × Operand)) (s : St) : evV Try.prog H d ty (.build 70 ps) s = aggO (buildL Try.prog [(68, 0, 1)] s [V.slc true 8 []] ps.toList) := build_lay la70 ze70
theorem xb70 (H : Hint) (d : Nat) (ty : TypeId) (ps : Array (Nat × Operand)) (pos : String) (aft : Array Edge) (g : Option (Nat × Bool)) : isX Try.prog H { dst := some d, op := .build 70 ps, type := ty, pos := pos, after := aft, guard := g } = !memN d H.arrs := by kernel_rfl
theorem fa70_0 (v : V) : vFieldAddr Try.prog 70 0 v = faddr 0 v := by kernel_rfl
theorem fg70_0 (s : St) (v : V) : vField Try.prog s 70 0 v = fget 0 1 false v := by kernel_rfl
theorem sz71 : szOf Try.prog 71 = 1 := by kernel_rfl
theorem ag71 : isAgg Try.prog 71 = false := by kernel_rfl
theorem ze71 : zero Try.prog 71 = some [V.nilfn] := by kernel_rfl
theorem u72 : Try.prog.underlying 72 = some (.slice 131) := by kernel_rfl
theorem sz72 : szOf Try.prog 72 = 1 := by kernel_rfl
theorem ag72 : isAgg Try.prog 72 = false := by kernel_rfl
theorem eo72 : elemOf Try.prog 72 = 131 := by kernel_rfl
theorem es72 : elemSz Try.prog 72 = 8 := by kernel_rfl
theorem gr72 : growB Try.prog 72 = true := by kernel_rfl
theorem df72 : dflt Try.prog 72 = V.agg [V.int .i64 0, V.str ⟨#[]⟩, V.str ⟨#[]⟩, V.int .i64 0, V.str ⟨#[]⟩, V.slc false 3 [], V.slc false 1 [], V.int .i64 0] := by kernel_rfl
theorem ze72 : zero Try.prog 72 = some [V.slc true 8 []] := by kernel_rfl
theorem sz73 : szOf Try.prog 73 = 1 := by kernel_rfl
theorem ag73 : isAgg Try.prog 73 = true := by kernel_rfl
theorem ze73 : zero Try.prog 73 = some [V.slc true 8 []] := by kernel_rfl
theorem la73 : layOf Try.prog 73 = some [(72, 0, 1)] := by kernel_rfl
theorem bd73 (H : Hint) (d : Nat) (ty : TypeId) (ps : Array (Nat × Operand)) (s : St) : evV Try.prog H d ty (.build 73 ps) s = aggO (buildL Try.prog [(72, 0, 1)] s [V.slc true 8 []] ps.toList) := build_lay la73 ze73
theorem xb73 (H : Hint) (d : Nat) (ty : TypeId) (ps : Array (Nat × Operand)) (pos : String) (aft : Array Edge) (g : Option (Nat × Bool)) : isX Try.prog H { dst := some d, op := .build 73 ps, type := ty, pos := pos, after := aft, guard := g } = !memN d H.arrs := by kernel_rfl
theorem fa73_0 (v : V) : vFieldAddr Try.prog 73 0 v = faddr 0 v := by kernel_rfl
theorem fg73_0 (s : St) (v : V) : vField Try.prog s 73 0 v = fget 0 1 false v := by kernel_rfl
theorem sz74 : szOf Try.prog 74 = 1 := by kernel_rfl
theorem ag74 : isAgg Try.prog 74 = true := by kernel_rfl
theorem ze74 : zero Try.prog 74 = some [V.slc true 8 []] := by kernel_rfl
theorem la74 : layOf Try.prog 74 = some [(72, 0, 1)] := by kernel_rfl
theorem bd74 (H : Hint) (d : Nat) (ty : TypeId) (ps : Array (Nat × Operand)) (s : St) : evV Try.prog H d ty (.build 74 ps) s = aggO (buildL Try.prog [(72, 0, 1)] s [V.slc true 8 []] ps.toList) := build_lay la74 ze74
theorem xb74 (H : Hint) (d : Nat) (ty : TypeId) (ps : Array (Nat × Operand)) (pos : String) (aft : Array Edge) (g : Option (Nat × Bool)) : isX Try.prog H { dst := some d, op := .build 74 ps, type := ty, pos := pos, after := aft, guard := g } = !memN d H.arrs := by kernel_rfl
theorem fa74_0 (v : V) : vFieldAddr Try.prog 74 0 v = faddr 0 v := by kernel_rfl
theorem fg74_0 (s : St) (v : V) : vField Try.prog s 74 0 v = fget 0 1 false v := by kernel_rfl
theorem sz76 : szOf Try.prog 76 = 1 := by kernel_rfl
theorem ag76 : isAgg Try.prog 76 = false := by kernel_rfl
theorem ze76 : zero Try.prog 76 = some [V.nilfn] := by kernel_rfl
theorem sz77 : szOf Try.prog 77 = 1 := by kernel_rfl
theorem ag77 : isAgg Try.prog 77 = false := by kernel_rfl
theorem ze77 : zero Try.prog 77 = some [V.nilfn] := by kernel_rfl
theorem sz78 : szOf Try.prog 78 = 1 := by kernel_rfl
theorem ag78 : isAgg Try.prog 78 = false := by kernel_rfl
theorem ze78 : zero Try.prog 78 = some [V.nilfn] := by kernel_rfl
theorem sz79 : szOf Try.prog 79 = 1 := by kernel_rfl
theorem ag79 : isAgg Try.prog 79 = false := by kernel_rfl
theorem ze79 : zero Try.prog 79 = some [V.nilfn] := by kernel_rfl
theorem sz80 : szOf Try.prog 80 = 1 := by kernel_rfl
theorem ag80 : isAgg Try.prog 80 = false := by kernel_rfl
theorem ze80 : zero Try.prog 80 = some [V.nilfn] := by kernel_rfl
theorem sz81 : szOf Try.prog 81 = 1 := by kernel_rfl
theorem ag81 : isAgg Try.prog 81 = false := by kernel_rfl
theorem ze81 : zero Try.prog 81 = some [V.nilfn] := by kernel_rfl
theorem sz82 : szOf Try.prog 82 = 1 := by kernel_rfl
theorem ag82 : isAgg Try.prog 82 = false := by kernel_rfl
theorem ze82 : zero Try.prog 82 = some [V.nilfn] := by kernel_rfl
theorem sz83 : szOf Try.prog 83 = 1 := by kernel_rfl
theorem ag83 : isAgg Try.prog 83 = false := by kernel_rfl
theorem ze83 : zero Try.prog 83 = some [V.nilfn] := by kernel_rfl
theorem sz84 : szOf Try.prog 84 = 1 := by kernel_rfl
theorem ag84 : isAgg Try.prog 84 = false := by kernel_rfl
theorem ze84 : zero Try.prog 84 = some [V.nilfn] := by kernel_rfl
theorem sz85 : szOf Try.prog 85 = 1 := by kernel_rfl
theorem ag85 : isAgg Try.prog 85 = false := by kernel_rfl
theorem ze85 : zero Try.prog 85 = some [V.nilfn] := by kernel_rfl
theorem sz86 : szOf Try.prog 86 = 1 := by kernel_rfl
theorem ag86 : isAgg Try.prog 86 = false := by kernel_rfl
theorem ze86 : zero Try.prog 86 = some [V.nilfn] := by kernel_rfl
theorem sz87 : szOf Try.prog 87 = 1 := by kernel_rfl
theorem ag87 : isAgg Try.prog 87 = false := by kernel_rfl
theorem ze87 : zero Try.prog 87 = some [V.nilfn] := by kernel_rfl
theorem sz88 : szOf Try.prog 88 = 1 := by kernel_rfl
theorem ag88 : isAgg Try.prog 88 = false := by kernel_rfl
theorem ze88 : zero Try.prog 88 = some [V.nilfn] := by kernel_rfl
theorem sz90 : szOf Try.prog 90 = 1 := by kernel_rfl
theorem ag90 : isAgg Try.prog 90 = false := by kernel_rfl
theorem ze90 : zero Try.prog 90 = some [V.nilfn] := by kernel_rfl
theorem sz91 : szOf Try.prog 91 = 1 := by kernel_rfl
theorem ag91 : isAgg Try.prog 91 = false := by kernel_rfl
theorem ze91 : zero Try.prog 91 = some [V.nilfn] := by kernel_rfl
theorem sz92 : szOf Try.prog 92 = 1 := by kernel_rfl
theorem ag92 : isAgg Try.prog 92 = false := by kernel_rfl
theorem ze92 : zero Try.prog 92 = some [V.nilfn] := by kernel_rfl
theorem sz93 : szOf Try.prog 93 = 1 := by kernel_rfl
theorem ag93 : isAgg Try.prog 93 = false := by kernel_rfl
theorem ze93 : zero Try.prog 93 = some [V.nilfn] := by kernel_rfl
theorem sz94 : szOf Try.prog 94 = 1 := by kernel_rfl
theorem ag94 : isAgg Try.prog 94 = false := by kernel_rfl
theorem ze94 : zero Try.prog 94 = some [V.nilfn] := by kernel_rfl
theorem sz95 : szOf Try.prog 95 = 1 := by kernel_rfl
theorem ag95 : isAgg Try.prog 95 = false := by kernel_rfl
theorem ze95 : zero Try.prog 95 = some [V.nilfn] := by kernel_rfl
theorem sz96 : szOf Try.prog 96 = 1 := by kernel_rfl
theorem ag96 : isAgg Try.prog 96 = false := by kernel_rfl
theorem ze96 : zero Try.prog 96 = some [V.nilfn] := by kernel_rfl
theorem sz97 : szOf Try.prog 97 = 1 := by kernel_rfl
theorem ag97 : isAgg Try.prog 97 = false := by kernel_rfl
theorem ze97 : zero Try.prog 97 = some [V.nilfn] := by kernel_rfl
theorem sz98 : szOf Try.prog 98 = 1 := by kernel_rfl
theorem ag98 : isAgg Try.prog 98 = false := by kernel_rfl
theorem ze98 : zero Try.prog 98 = some [V.nilfn] := by kernel_rfl
theorem sz99 : szOf Try.prog 99 = 1 := by kernel_rfl
theorem ag99 : isAgg Try.prog 99 = false := by kernel_rfl
theorem ze99 : zero Try.prog 99 = some [V.nilfn] := by kernel_rfl
theorem sz100 : szOf Try.prog 100 = 1 := by kernel_rfl
theorem ag100 : isAgg Try.prog 100 = false := by kernel_rfl
theorem ze100 : zero Try.prog 100 = some [V.nilfn] := by kernel_rfl
theorem sz101 : szOf Try.prog 101 = 1 := by kernel_rfl
theorem ag101 : isAgg Try.prog 101 = false := by kernel_rfl
theorem ze101 : zero Try.prog 101 = some [V.nilfn] := by kernel_rfl
theorem u102 : Try.prog.underlying 102 = some (.slice 106) := by kernel_rfl
theorem sz102 : szOf Try.prog 102 = 1 := by kernel_rfl
theorem ag102 : isAgg Try.prog 102 = false := by kernel_rfl
theorem eo102 : elemOf Try.prog 102 = 106 := by kernel_rfl
theorem es102 : elemSz Try.prog 102 = 2 := by kernel_rfl
theorem gr102 : growB Try.prog 102 = true := by kernel_rfl
theorem df102 : dflt Try.prog 102 = V.agg [V.int .u8 0, V.str ⟨#[]⟩] := by kernel_rfl
theorem ze102 : zero Try.prog 102 = some [V.slc true 2 []] := by kernel_rfl
theorem sz103 : szOf Try.prog 103 = 1 := by kernel_rfl
theorem ag103 : isAgg Try.prog 103 = false := by kernel_rfl
theorem ze103 : zero Try.prog 103 = some [V.nilfn] := by kernel_rfl
theorem sz104 : szOf Try.prog 104 = 1 := by kernel_rfl
theorem ag104 : isAgg Try.prog 104 = false := by kernel_rfl
theorem ze104 : zero Try.prog 104 = some [V.nilfn] := by kernel_rfl
theorem sz105 : szOf Try.prog 105 = 2 := by kernel_rfl
theorem ag105 : isAgg Try.prog 105 = true := by kernel_rfl
theorem ze105 : zero Try.prog 105 = some [V.int .u8 0, V.str ⟨#[]⟩] := by kernel_rfl
theorem la105 : layOf Try.prog 105 = some [(5, 0, 1), (9, 1, 1)] := by kernel_rfl
theorem bd105 (H : Hint) (d : Nat) (ty : TypeId) (ps : Array (Nat × Operand)) (s : St) : evV Try.prog H d ty (.build 105 ps) s = aggO (buildL Try.prog [(5, 0, 1), (9, 1, 1)] s [V.int .u8 0, V.str ⟨#[]⟩] ps.toList) := build_lay la105 ze105
theorem xb105 (H : Hint) (d : Nat) (ty : TypeId) (ps : Array (Nat × Operand)) (pos : String) (aft : Array Edge) (g : Option (Nat × Bool)) : isX Try.prog H { dst := some d, op := .build 105 ps, type := ty, pos := pos, after := aft, guard := g } = !memN d H.arrs := by kernel_rfl
theorem fa105_0 (v : V) : vFieldAddr Try.prog 105 0 v = faddr 0 v := by kernel_rfl
theorem fg105_0 (s : St) (v : V) : vField Try.prog s 105 0 v = fget 0 1 false v := by kernel_rfl
theorem fa105_1 (v : V) : vFieldAddr Try.prog 105 1 v = faddr 1 v := by kernel_rfl
theorem fg105_1 (s : St) (v : V) : vField Try.prog s 105 1 v = fget 1 1 false v := by kernel_rfl
theorem sz106 : szOf Try.prog 106 = 2 := by kernel_rfl
theorem ag106 : isAgg Try.prog 106 = true := by kernel_rfl
theorem ze106 : zero Try.prog 106 = some [V.int .u8 0, V.str ⟨#[]⟩] := by kernel_rfl
theorem la106 : layOf Try.prog 106 = some [(5, 0, 1), (9, 1, 1)] := by kernel_rfl
theorem bd106 (H : Hint) (d : Nat) (ty : TypeId) (ps : Array (Nat × Operand)) (s : St) : evV Try.prog H d ty (.build 106 ps) s = aggO (buildL Try.prog [(5, 0, 1), (9, 1, 1)] s [V.int .u8 0, V.str ⟨#[]⟩] ps.toList) := build_lay la106 ze106
theorem xb106 (H : Hint) (d : Nat) (ty : TypeId) (ps : Array (Nat × Operand)) (pos : String) (aft : Array Edge) (g : Option (Nat × Bool)) : isX Try.prog H { dst := some d, op := .build 106 ps, type := ty, pos := pos, after := aft, guard := g } = !memN d H.arrs := by kernel_rfl
theorem fa106_0 (v : V) : vFieldAddr Try.prog 106 0 v = faddr 0 v := by kernel_rfl
theorem fg106_0 (s : St) (v : V) : vField Try.prog s 106 0 v = fget 0 1 false v := by kernel_rfl
theorem fa106_1 (v : V) : vFieldAddr Try.prog 106 1 v = faddr 1 v := by kernel_rfl
theorem fg106_1 (s : St) (v : V) : vField Try.prog s 106 1 v = fget 1 1 false v := by kernel_rfl
theorem ev106 (x0 y0 : Int) (x1 y1 : ByteArray) : eqV Try.prog 106 (.agg [V.int .u8 x0, V.str x1]) (.agg [V.int .u8 y0, V.str y1]) = some ((x0 == y0) && ((x1.toList == y1.toList) && true)) := by kernel_rfl
theorem eg106 : Try.prog.eqGuardType Try.prog.depth 106 = false := by kernel_rfl
theorem sz107 : szOf Try.prog 107 = 1 := by kernel_rfl
theorem ag107 : isAgg Try.prog 107 = false := by kernel_rfl
theorem ze107 : zero Try.prog 107 = some [V.nilfn] := by kernel_rfl
theorem sz108 : szOf Try.prog 108 = 5 := by kernel_rfl
theorem ag108 : isAgg Try.prog 108 = true := by kernel_rfl
theorem ze108 : zero Try.prog 108 = some [V.int .u8 0, V.str ⟨#[]⟩, V.str ⟨#[]⟩, V.str ⟨#[]⟩, V.slc true 1 []] := by kernel_rfl
theorem la108 : layOf Try.prog 108 = some [(106, 0, 2), (59, 2, 3)] := by kernel_rfl
theorem bd108 (H : Hint) (d : Nat) (ty : TypeId) (ps : Array (Nat × Operand)) (s : St) : evV Try.prog H d ty (.build 108 ps) s = aggO (buildL Try.prog [(106, 0, 2), (59, 2, 3)] s [V.int .u8 0, V.str ⟨#[]⟩, V.str ⟨#[]⟩, V.str ⟨#[]⟩, V.slc true 1 []] ps.toList) := build_lay la108 ze108
theorem xb108 (H : Hint) (d : Nat) (ty : TypeId) (ps : Array (Nat × Operand)) (pos : String) (aft : Array Edge) (g : Option (Nat × Bool)) : isX Try.prog H { dst := some d, op := .build 108 ps, type := ty, pos := pos, after := aft, guard := g } = !memN d H.arrs := by kernel_rfl
theorem fa108_0 (v : V) : vFieldAddr Try.prog 108 0 v = faddr 0 v := by kernel_rfl
theorem fg108_0 (s : St) (v : V) : vField Try.prog s 108 0 v = fget 0 2 true v := by kernel_rfl
theorem fa108_1 (v : V) : vFieldAddr Try.prog 108 1 v = faddr 2 v := by kernel_rfl
theorem fg108_1 (s : St) (v : V) : vField Try.prog s 108 1 v = fget 2 3 true v := by kernel_rfl
theorem sz109 : szOf Try.prog 109 = 5 := by kernel_rfl
theorem ag109 : isAgg Try.prog 109 = true := by kernel_rfl
theorem ze109 : zero Try.prog 109 = some [V.int .u8 0, V.str ⟨#[]⟩, V.str ⟨#[]⟩, V.str ⟨#[]⟩, V.slc true 1 []] := by kernel_rfl
theorem la109 : layOf Try.prog 109 = some [(106, 0, 2), (59, 2, 3)] := by kernel_rfl
theorem bd109 (H : Hint) (d : Nat) (ty : TypeId) (ps : Array (Nat × Operand)) (s : St) : evV Try.prog H d ty (.build 109 ps) s = aggO (buildL Try.prog [(106, 0, 2), (59, 2, 3)] s [V.int .u8 0, V.str ⟨#[]⟩, V.str ⟨#[]⟩, V.str ⟨#[]⟩, V.slc true 1 []] ps.toList) := build_lay la109 ze109
theorem xb109 (H : Hint) (d : Nat) (ty : TypeId) (ps : Array (Nat × Operand)) (pos : String) (aft : Array Edge) (g : Option (Nat × Bool)) : isX Try.prog H { dst := some d, op := .build 109 ps, type := ty, pos := pos, after := aft, guard := g } = !memN d H.arrs := by kernel_rfl
theorem fa109_0 (v : V) : vFieldAddr Try.prog 109 0 v = faddr 0 v := by kernel_rfl
theorem fg109_0 (s : St) (v : V) : vField Try.prog s 109 0 v = fget 0 2 true v := by kernel_rfl
theorem fa109_1 (v : V) : vFieldAddr Try.prog 109 1 v = faddr 2 v := by kernel_rfl
theorem fg109_1 (s : St) (v : V) : vField Try.prog s 109 1 v = fget 2 3 true v := by kernel_rfl
theorem sz110 : szOf Try.prog 110 = 1 := by kernel_rfl
theorem ag110 : isAgg Try.prog 110 = false := by kernel_rfl
theorem ze110 : zero Try.prog 110 = some [V.nilfn] := by kernel_rfl
theorem sz111 : szOf Try.prog 111 = 1 := by kernel_rfl
theorem ag111 : isAgg Try.prog 111 = false := by kernel_rfl
theorem ze111 : zero Try.prog 111 = some [V.nilfn] := by kernel_rfl
theorem sz112 : szOf Try.prog 112 = 1 := by kernel_rfl
theorem ag112 : isAgg Try.prog 112 = false := by kernel_rfl
theorem ze112 : zero Try.prog 112 = some [V.nilfn] := by kernel_rfl
theorem sz113 : szOf Try.prog 113 = 1 := by kernel_rfl
theorem ag113 : isAgg Try.prog 113 = false := by kernel_rfl
theorem ze113 : zero Try.prog 113 = some [V.nilfn] := by kernel_rfl
theorem sz114 : szOf Try.prog 114 = 1 := by kernel_rfl
theorem ag114 : isAgg Try.prog 114 = false := by kernel_rfl
theorem ze114 : zero Try.prog 114 = some [V.nilfn] := by kernel_rfl
theorem sz115 : szOf Try.prog 115 = 1 := by kernel_rfl
theorem ag115 : isAgg Try.prog 115 = false := by kernel_rfl
theorem ze115 : zero Try.prog 115 = some [V.nilfn] := by kernel_rfl
theorem sz116 : szOf Try.prog 116 = 1 := by kernel_rfl
theorem ag116 : isAgg Try.prog 116 = false := by kernel_rfl
theorem ze116 : zero Try.prog 116 = some [V.nilfn] := by kernel_rfl
theorem sz117 : szOf Try.prog 117 = 1 := by kernel_rfl
theorem ag117 : isAgg Try.prog 117 = false := by kernel_rfl
theorem ze117 : zero Try.prog 117 = some [V.nilfn] := by kernel_rfl
theorem sz118 : szOf Try.prog 118 = 1 := by kernel_rfl
theorem ag118 : isAgg Try.prog 118 = false := by kernel_rfl
theorem ze118 : zero Try.prog 118 = some [V.nilfn] := by kernel_rfl
theorem sz119 : szOf Try.prog 119 = 1 := by kernel_rfl
theorem ag119 : isAgg Try.prog 119 = false := by kernel_rfl
theorem ze119 : zero Try.prog 119 = some [V.nilfn] := by kernel_rfl
theorem sz120 : szOf Try.prog 120 = 1 := by kernel_rfl
theorem ag120 : isAgg Try.prog 120 = false := by kernel_rfl
theorem ze120 : zero Try.prog 120 = some [V.nilfn] := by kernel_rfl
theorem sz121 : szOf Try.prog 121 = 1 := by kernel_rfl
theorem ag121 : isAgg Try.prog 121 = false := by kernel_rfl
theorem ze121 : zero Try.prog 121 = some [V.nilfn] := by kernel_rfl
theorem sz122 : szOf Try.prog 122 = 1 := by kernel_rfl
theorem ag122 : isAgg Try.prog 122 = false := by kernel_rfl
theorem ze122 : zero Try.prog 122 = some [V.nilfn] := by kernel_rfl
theorem sz123 : szOf Try.prog 123 = 1 := by kernel_rfl
theorem ag123 : isAgg Try.prog 123 = false := by kernel_rfl
theorem ze123 : zero Try.prog 123 = some [V.nilfn] := by kernel_rfl
theorem sz124 : szOf Try.prog 124 = 1 := by kernel_rfl
theorem ag124 : isAgg Try.prog 124 = false := by kernel_rfl
theorem ze124 : zero Try.prog 124 = some [V.nilfn] := by kernel_rfl
theorem sz125 : szOf Try.prog 125 = 1 := by kernel_rfl
theorem ag125 : isAgg Try.prog 125 = false := by kernel_rfl
theorem ze125 : zero Try.prog 125 = some [V.nilfn] := by kernel_rfl
theorem sz126 : szOf Try.prog 126 = 1 := by kernel_rfl
theorem ag126 : isAgg Try.prog 126 = false := by kernel_rfl
theorem ze126 : zero Try.prog 126 = some [V.nilfn] := by kernel_rfl
theorem u127 : Try.prog.underlying 127 = some (.slice 129) := by kernel_rfl
theorem sz127 : szOf Try.prog 127 = 1 := by kernel_rfl
theorem ag127 : isAgg Try.prog 127 = false := by kernel_rfl
theorem eo127 : elemOf Try.prog 127 = 129 := by kernel_rfl
theorem es127 : elemSz Try.prog 127 = 3 := by kernel_rfl
theorem gr127 : growB Try.prog 127 = true := by kernel_rfl
theorem df127 : dflt Try.prog 127 = V.agg [V.int .i64 0, V.str ⟨#[]⟩, V.slc false 3 []] := by kernel_rfl
theorem ze127 : zero Try.prog 127 = some [V.slc true 3 []] := by kernel_rfl
theorem sz128 : szOf Try.prog 128 = 3 := by kernel_rfl
theorem ag128 : isAgg Try.prog 128 = true := by kernel_rfl
theorem ze128 : zero Try.prog 128 = some [V.int .i64 0, V.str ⟨#[]⟩, V.slc true 3 []] := by kernel_rfl
theorem la128 : layOf Try.prog 128 = some [(3, 0, 1), (9, 1, 1), (127, 2, 1)] := by kernel_rfl
theorem bd128 (H : Hint) (d : Nat) (ty : TypeId) (ps : Array (Nat × Operand)) (s : St) : evV Try.prog H d ty (.build 128 ps) s = aggO (buildL Try.prog [(3, 0, 1), (9, 1, 1), (127, 2, 1)] s [V.int .i64 0, V.str ⟨#[]⟩, V.slc true 3 []] ps.toList) := build_lay la128 ze128
theorem xb128 (H : Hint) (d : Nat) (ty : TypeId) (ps : Array (Nat × Operand)) (pos : String) (aft : Array Edge) (g : Option (Nat × Bool)) : isX Try.prog H { dst := some d, op := .build 128 ps, type := ty, pos := pos, after := aft, guard := g } = !memN d H.arrs := by kernel_rfl
theorem fa128_0 (v : V) : vFieldAddr Try.prog 128 0 v = faddr 0 v := by kernel_rfl
theorem fg128_0 (s : St) (v : V) : vField Try.prog s 128 0 v = fget 0 1 false v := by kernel_rfl
theorem fa128_1 (v : V) : vFieldAddr Try.prog 128 1 v = faddr 1 v := by kernel_rfl
theorem fg128_1 (s : St) (v : V) : vField Try.prog s 128 1 v = fget 1 1 false v := by kernel_rfl
theorem fa128_2 (v : V) : vFieldAddr Try.prog 128 2 v = faddr 2 v := by kernel_rfl
theorem fg128_2 (s : St) (v : V) : vField Try.prog s 128 2 v = fget 2 1 false v := by kernel_rfl
theorem sz129 : szOf Try.prog 129 = 3 := by kernel_rfl
theorem ag129 : isAgg Try.prog 129 = true := by kernel_rfl
theorem ze129 : zero Try.prog 129 = some [V.int .i64 0, V.str ⟨#[]⟩, V.slc true 3 []] := by kernel_rfl
theorem la129 : layOf Try.prog 129 = some [(3, 0, 1), (9, 1, 1), (127, 2, 1)] := by kernel_rfl
theorem bd129 (H : Hint) (d : Nat) (ty : TypeId) (ps : Array (Nat × Operand)) (s : St) : evV Try.prog H d ty (.build 129 ps) s = aggO (buildL Try.prog [(3, 0, 1), (9, 1, 1), (127, 2, 1)] s [V.int .i64 0, V.str ⟨#[]⟩, V.slc true 3 []] ps.toList) := build_lay la129 ze129
theorem xb129 (H : Hint) (d : Nat) (ty : TypeId) (ps : Array (Nat × Operand)) (pos : String) (aft : Array Edge) (g : Option (Nat × Bool)) : isX Try.prog H { dst := some d, op := .build 129 ps, type := ty, pos := pos, after := aft, guard := g } = !memN d H.arrs := by kernel_rfl
theorem fa129_0 (v : V) : vFieldAddr Try.prog 129 0 v = faddr 0 v := by kernel_rfl
theorem fg129_0 (s : St) (v : V) : vField Try.prog s 129 0 v = fget 0 1 false v := by kernel_rfl
theorem fa129_1 (v : V) : vFieldAddr Try.prog 129 1 v = faddr 1 v := by kernel_rfl
theorem fg129_1 (s : St) (v : V) : vField Try.prog s 129 1 v = fget 1 1 false v := by kernel_rfl
theorem fa129_2 (v : V) : vFieldAddr Try.prog 129 2 v = faddr 2 v := by kernel_rfl
theorem fg129_2 (s : St) (v : V) : vField Try.prog s 129 2 v = fget 2 1 false v := by kernel_rfl
theorem sz130 : szOf Try.prog 130 = 8 := by kernel_rfl
theorem ag130 : isAgg Try.prog 130 = true := by kernel_rfl
theorem ze130 : zero Try.prog 130 = some [V.int .i64 0, V.str ⟨#[]⟩, V.str ⟨#[]⟩, V.int .i64 0, V.str ⟨#[]⟩, V.slc true 3 [], V.slc true 1 [], V.int .i64 0] := by kernel_rfl
theorem la130 : layOf Try.prog 130 = some [(3, 0, 1), (9, 1, 1), (9, 2, 1), (129, 3, 3), (43, 6, 1), (3, 7, 1)] := by kernel_rfl
theorem bd130 (H : Hint) (d : Nat) (ty : TypeId) (ps : Array (Nat × Operand)) (s : St) : evV Try.prog H d ty (.build 130 ps) s = aggO (buildL Try.prog [(3, 0, 1), (9, 1, 1), (9, 2, 1), (129, 3, 3), (43, 6, 1), (3, 7, 1)] s [V.int .i64 0, V.str ⟨#[]⟩, V.str ⟨#[]⟩, V.int .i64 0, V.str ⟨#[]⟩, V.slc true 3 [], V.slc true 1 [], V.int .i64 0] ps.toList) := build_lay la130 ze130
theorem xb130 (H : Hint) (d : Nat) (ty : TypeId) (ps : Array (Nat × Operand)) (pos : String) (aft : Array Edge) (g : Option (Nat × Bool)) : isX Try.prog H { dst := some d, op := .build 130 ps, type := ty, pos := pos, after := aft, guard := g } = !memN d H.arrs := by kernel_rfl
theorem fa130_0 (v : V) : vFieldAddr Try.prog 130 0 v = faddr 0 v := by kernel_rfl
theorem fg130_0 (s : St) (v : V) : vField Try.prog s 130 0 v = fget 0 1 false v := by kernel_rfl
theorem fa130_1 (v : V) : vFieldAddr Try.prog 130 1 v = faddr 1 v := by kernel_rfl
theorem fg130_1 (s : St) (v : V) : vField Try.prog s 130 1 v = fget 1 1 false v := by kernel_rfl
theorem fa130_2 (v : V) : vFieldAddr Try.prog 130 2 v = faddr 2 v := by kernel_rfl
theorem fg130_2 (s : St) (v : V) : vField Try.prog s 130 2 v = fget 2 1 false v := by kernel_rfl
theorem fa130_3 (v : V) : vFieldAddr Try.prog 130 3 v = faddr 3 v := by kernel_rfl
theorem fg130_3 (s : St) (v : V) : vField Try.prog s 130 3 v = fget 3 3 true v := by kernel_rfl
theorem fa130_4 (v : V) : vFieldAddr Try.prog 130 4 v = faddr 6 v := by kernel_rfl
theorem fg130_4 (s : St) (v : V) : vField Try.prog s 130 4 v = fget 6 1 false v := by kernel_rfl
theorem fa130_5 (v : V) : vFieldAddr Try.prog 130 5 v = faddr 7 v := by kernel_rfl
theorem fg130_5 (s : St) (v : V) : vField Try.prog s 130 5 v = fget 7 1 false v := by kernel_rfl
theorem sz131 : szOf Try.prog 131 = 8 := by kernel_rfl
theorem ag131 : isAgg Try.prog 131 = true := by kernel_rfl
theorem ze131 : zero Try.prog 131 = some [V.int .i64 0, V.str ⟨#[]⟩, V.str ⟨#[]⟩, V.int .i64 0, V.str ⟨#[]⟩, V.slc true 3 [], V.slc true 1 [], V.int .i64 0] := by kernel_rfl
theorem la131 : layOf Try.prog 131 = some [(3, 0, 1), (9, 1, 1), (9, 2, 1), (129, 3, 3), (43, 6, 1), (3, 7, 1)] := by kernel_rfl
theorem bd131 (H : Hint) (d : Nat) (ty : TypeId) (ps : Array (Nat × Operand)) (s : St) : evV Try.prog H d ty (.build 131 ps) s = aggO (buildL Try.prog [(3, 0, 1), (9, 1, 1), (9, 2, 1), (129, 3, 3), (43, 6, 1), (3, 7, 1)] s [V.int .i64 0, V.str ⟨#[]⟩, V.str ⟨#[]⟩, V.int .i64 0, V.str ⟨#[]⟩, V.slc true 3 [], V.slc true 1 [], V.int .i64 0] ps.toList) := build_lay la131 ze131
theorem xb131 (H : Hint) (d : Nat) (ty : TypeId) (ps : Array (Nat × Operand)) (pos : String) (aft : Array Edge) (g : Option (Nat × Bool)) : isX Try.prog H { dst := some d, op := .build 131 ps, type := ty, pos := pos, after := aft, guard := g } = !memN d H.arrs := by kernel_rfl
theorem fa131_0 (v : V) : vFieldAddr Try.prog 131 0 v = faddr 0 v := by kernel_rfl
theorem fg131_0 (s : St) (v : V) : vField Try.prog s 131 0 v = fget 0 1 false v := by kernel_rfl
theorem fa131_1 (v : V) : vFieldAddr Try.prog 131 1 v = faddr 1 v := by kernel_rfl
theorem fg131_1 (s : St) (v : V) : vField Try.prog s 131 1 v = fget 1 1 false v := by kernel_rfl
theorem fa131_2 (v : V) : vFieldAddr Try.prog 131 2 v = faddr 2 v := by kernel_rfl
theorem fg131_2 (s : St) (v : V) : vField Try.prog s 131 2 v = fget 2 1 false v := by kernel_rfl
theorem fa131_3 (v : V) : vFieldAddr Try.prog 131 3 v = faddr 3 v := by kernel_rfl
theorem fg131_3 (s : St) (v : V) : vField Try.prog s 131 3 v = fget 3 3 true v := by kernel_rfl
theorem fa131_4 (v : V) : vFieldAddr Try.prog 131 4 v = faddr 6 v := by kernel_rfl
theorem fg131_4 (s : St) (v : V) : vField Try.prog s 131 4 v = fget 6 1 false v := by kernel_rfl
theorem fa131_5 (v : V) : vFieldAddr Try.prog 131 5 v = faddr 7 v := by kernel_rfl
theorem fg131_5 (s : St) (v : V) : vField Try.prog s 131 5 v = fget 7 1 false v := by kernel_rfl
theorem sz132 : szOf Try.prog 132 = 1 := by kernel_rfl
theorem ag132 : isAgg Try.prog 132 = false := by kernel_rfl
theorem ze132 : zero Try.prog 132 = some [V.nilfn] := by kernel_rfl
theorem sz133 : szOf Try.prog 133 = 1 := by kernel_rfl
theorem ag133 : isAgg Try.prog 133 = false := by kernel_rfl
theorem ze133 : zero Try.prog 133 = some [V.nilfn] := by kernel_rfl
theorem sz134 : szOf Try.prog 134 = 1 := by kernel_rfl
theorem ag134 : isAgg Try.prog 134 = false := by kernel_rfl
theorem ze134 : zero Try.prog 134 = some [V.nilfn] := by kernel_rfl
theorem sz135 : szOf Try.prog 135 = 1 := by kernel_rfl
theorem ag135 : isAgg Try.prog 135 = false := by kernel_rfl
theorem ze135 : zero Try.prog 135 = some [V.nilfn] := by kernel_rfl
theorem sz136 : szOf Try.prog 136 = 1 := by kernel_rfl
theorem ag136 : isAgg Try.prog 136 = false := by kernel_rfl
theorem ze136 : zero Try.prog 136 = some [V.nilfn] := by kernel_rfl
theorem sz137 : szOf Try.prog 137 = 1 := by kernel_rfl
theorem ag137 : isAgg Try.prog 137 = false := by kernel_rfl
theorem ze137 : zero Try.prog 137 = some [V.nilfn] := by kernel_rfl
theorem sz138 : szOf Try.prog 138 = 1 := by kernel_rfl
theorem ag138 : isAgg Try.prog 138 = false := by kernel_rfl
theorem ze138 : zero Try.prog 138 = some [V.nilfn] := by kernel_rfl
theorem sz139 : szOf Try.prog 139 = 1 := by kernel_rfl
theorem ag139 : isAgg Try.prog 139 = false := by kernel_rfl
theorem ze139 : zero Try.prog 139 = some [V.nilfn] := by kernel_rfl
theorem u140 : Try.prog.underlying 140 = some (.map 3 3) := by kernel_rfl
theorem sz140 : szOf Try.prog 140 = 1 := by kernel_rfl
theorem ag140 : isAgg Try.prog 140 = false := by kernel_rfl
theorem u141 : Try.prog.underlying 141 = some (.map 142 3) := by kernel_rfl
theorem sz141 : szOf Try.prog 141 = 1 := by kernel_rfl
theorem ag141 : isAgg Try.prog 141 = false := by kernel_rfl
theorem xa142 (H : Hint) (d : Nat) (ty : TypeId) (ps : Array (Nat × Operand)) (pos : String) (aft : Array Edge) (g : Option (Nat × Bool)) : isX Try.prog H { dst := some d, op := .build 142 ps, type := ty, pos := pos, after := aft, guard := g } = memN d H.arrs := by kernel_rfl
theorem u142 : Try.prog.underlying 142 = some (.array 4 3) := by kernel_rfl
theorem sz142 : szOf Try.prog 142 = 4 := by kernel_rfl
theorem ag142 : isAgg Try.prog 142 = true := by kernel_rfl
theorem eo142 : elemOf Try.prog 142 = 3 := by kernel_rfl
theorem es142 : elemSz Try.prog 142 = 1 := by kernel_rfl
theorem ze142 : zero Try.prog 142 = some [V.int .i64 0, V.int .i64 0, V.int .i64 0, V.int .i64 0] := by kernel_rfl
theorem sz143 : szOf Try.prog 143 = 1 := by kernel_rfl
theorem ag143 : isAgg Try.prog 143 = false := by kernel_rfl
theorem ze143 : zero Try.prog 143 = some [V.nilfn] := by kernel_rfl
theorem u144 : Try.prog.underlying 144 = some (.slice 9) := by kernel_rfl
theorem sz144 : szOf Try.prog 144 = 1 := by kernel_rfl
theorem ag144 : isAgg Try.prog 144 = false := by kernel_rfl
theorem eo144 : elemOf Try.prog 144 = 9 := by kernel_rfl
theorem es144 : elemSz Try.prog 144 = 1 := by kernel_rfl
theorem gr144 : growB Try.prog 144 = true := by kernel_rfl
theorem df144 : dflt Try.prog 144 = V.str ⟨#[]⟩ := by kernel_rfl
theorem ze144 : zero Try.prog 144 = some [V.slc true 1 []] := by kernel_rfl
theorem sz145 : szOf Try.prog 145 = 1 := by kernel_rfl
theorem ag145 : isAgg Try.prog 145 = false := by kernel_rfl
theorem ze145 : zero Try.prog 145 = some [V.nilfn] := by kernel_rfl
theorem sz146 : szOf Try.prog 146 = 1 := by kernel_rfl
theorem ag146 : isAgg Try.prog 146 = false := by kernel_rfl
theorem ze146 : zero Try.prog 146 = some [V.nilfn] := by kernel_rfl
theorem sz147 : szOf Try.prog 147 = 1 := by kernel_rfl
theorem ag147 : isAgg Try.prog 147 = false := by kernel_rfl
theorem ze147 : zero Try.prog 147 = some [V.nilfn] := by kernel_rfl
theorem sz148 : szOf Try.prog 148 = 1 := by kernel_rfl
theorem ag148 : isAgg Try.prog 148 = false := by kernel_rfl
theorem ze148 : zero Try.prog 148 = some [V.nilfn] := by kernel_rfl
theorem sz149 : szOf Try.prog 149 = 1 := by kernel_rfl
theorem ag149 : isAgg Try.prog 149 = false := by kernel_rfl
theorem ze149 : zero Try.prog 149 = some [V.nilfn] := by kernel_rfl
theorem sz150 : szOf Try.prog 150 = 1 := by kernel_rfl
theorem ag150 : isAgg Try.prog 150 = false := by kernel_rfl
theorem ze150 : zero Try.prog 150 = some [V.nilfn] := by kernel_rfl
theorem xa151 (H : Hint) (d : Nat) (ty : TypeId) (ps : Array (Nat × Operand)) (pos : String) (aft : Array Edge) (g : Option (Nat × Bool)) : isX Try.prog H { dst := some d, op := .build 151 ps, type := ty, pos := pos, after := aft, guard := g } = memN d H.arrs := by kernel_rfl
theorem u151 : Try.prog.underlying 151 = some (.array 2 5) := by kernel_rfl
theorem sz151 : szOf Try.prog 151 = 2 := by kernel_rfl
theorem ag151 : isAgg Try.prog 151 = true := by kernel_rfl
theorem eo151 : elemOf Try.prog 151 = 5 := by kernel_rfl
theorem es151 : elemSz Try.prog 151 = 1 := by kernel_rfl
theorem ze151 : zero Try.prog 151 = some [V.int .u8 0, V.int .u8 0] := by kernel_rfl
theorem u152 : Try.prog.underlying 152 = some (.slice 151) := by kernel_rfl
theorem sz152 : szOf Try.prog 152 = 1 := by kernel_rfl
theorem ag152 : isAgg Try.prog 152 = false := by kernel_rfl
theorem eo152 : elemOf Try.prog 152 = 151 := by kernel_rfl
theorem es152 : elemSz Try.prog 152 = 2 := by kernel_rfl
theorem gr152 : growB Try.prog 152 = true := by kernel_rfl
theorem df152 : dflt Try.prog 152 = V.agg [V.int .u8 0, V.int .u8 0] := by kernel_rfl
theorem ze152 : zero Try.prog 152 = some [V.slc true 2 []] := by kernel_rfl
theorem u153 : Try.prog.underlying 153 = some (.slice 5) := by kernel_rfl
theorem sz153 : szOf Try.prog 153 = 1 := by kernel_rfl
theorem ag153 : isAgg Try.prog 153 = false := by kernel_rfl
theorem eo153 : elemOf Try.prog 153 = 5 := by kernel_rfl
theorem es153 : elemSz Try.prog 153 = 1 := by kernel_rfl
theorem gr153 : growB Try.prog 153 = true := by kernel_rfl
theorem df153 : dflt Try.prog 153 = V.int .u8 0 := by kernel_rfl
theorem ze153 : zero Try.prog 153 = some [V.slc true 1 []] := by kernel_rfl
theorem sz154 : szOf Try.prog 154 = 1 := by kernel_rfl
theorem ag154 : isAgg Try.prog 154 = false := by kernel_rfl
theorem ze154 : zero Try.prog 154 = some [V.nilfn] := by kernel_rfl
theorem sz155 : szOf Try.prog 155 = 1 := by kernel_rfl
theorem ag155 : isAgg Try.prog 155 = false := by kernel_rfl
theorem ze155 : zero Try.prog 155 = some [V.nilfn] := by kernel_rfl
theorem sz156 : szOf Try.prog 156 = 1 := by kernel_rfl
theorem ag156 : isAgg Try.prog 156 = false := by kernel_rfl
theorem ze156 : zero Try.prog 156 = some [V.nilfn] := by kernel_rfl
theorem u157 : Try.prog.underlying 157 = some (.slice 159) := by kernel_rfl
theorem sz157 : szOf Try.prog 157 = 1 := by kernel_rfl
theorem ag157 : isAgg Try.prog 157 = false := by kernel_rfl
theorem eo157 : elemOf Try.prog 157 = 159 := by kernel_rfl
theorem es157 : elemSz Try.prog 157 = 3 := by kernel_rfl
theorem gr157 : growB Try.prog 157 = true := by kernel_rfl
theorem df157 : dflt Try.prog 157 = V.agg [V.int .i64 0, V.str ⟨#[]⟩, V.slc false 3 []] := by kernel_rfl
theorem ze157 : zero Try.prog 157 = some [V.slc true 3 []] := by kernel_rfl
theorem sz158 : szOf Try.prog 158 = 3 := by kernel_rfl
theorem ag158 : isAgg Try.prog 158 = true := by kernel_rfl
theorem ze158 : zero Try.prog 158 = some [V.int .i64 0, V.str ⟨#[]⟩, V.slc true 3 []] := by kernel_rfl
theorem la158 : layOf Try.prog 158 = some [(3, 0, 1), (9, 1, 1), (157, 2, 1)] := by kernel_rfl
theorem bd158 (H : Hint) (d : Nat) (ty : TypeId) (ps : Array (Nat × Operand)) (s : St) : evV Try.prog H d ty (.build 158 ps) s = aggO (buildL Try.prog [(3, 0, 1), (9, 1, 1), (157, 2, 1)] s [V.int .i64 0, V.str ⟨#[]⟩, V.slc true 3 []] ps.toList) := build_lay la158 ze158
theorem xb158 (H : Hint) (d : Nat) (ty : TypeId) (ps : Array (Nat × Operand)) (pos : String) (aft : Array Edge) (g : Option (Nat × Bool)) : isX Try.prog H { dst := some d, op := .build 158 ps, type := ty, pos := pos, after := aft, guard := g } = !memN d H.arrs := by kernel_rfl
theorem fa158_0 (v : V) : vFieldAddr Try.prog 158 0 v = faddr 0 v := by kernel_rfl
theorem fg158_0 (s : St) (v : V) : vField Try.prog s 158 0 v = fget 0 1 false v := by kernel_rfl
theorem fa158_1 (v : V) : vFieldAddr Try.prog 158 1 v = faddr 1 v := by kernel_rfl
theorem fg158_1 (s : St) (v : V) : vField Try.prog s 158 1 v = fget 1 1 false v := by kernel_rfl
theorem fa158_2 (v : V) : vFieldAddr Try.prog 158 2 v = faddr 2 v := by kernel_rfl
theorem fg158_2 (s : St) (v : V) : vField Try.prog s 158 2 v = fget 2 1 false v := by kernel_rfl
theorem sz159 : szOf Try.prog 159 = 3 := by kernel_rfl
theorem ag159 : isAgg Try.prog 159 = true := by kernel_rfl
theorem ze159 : zero Try.prog 159 = some [V.int .i64 0, V.str ⟨#[]⟩, V.slc true 3 []] := by kernel_rfl
theorem la159 : layOf Try.prog 159 = some [(3, 0, 1), (9, 1, 1), (157, 2, 1)] := by kernel_rfl
theorem bd159 (H : Hint) (d : Nat) (ty : TypeId) (ps : Array (Nat × Operand)) (s : St) : evV Try.prog H d ty (.build 159 ps) s = aggO (buildL Try.prog [(3, 0, 1), (9, 1, 1), (157, 2, 1)] s [V.int .i64 0, V.str ⟨#[]⟩, V.slc true 3 []] ps.toList) := build_lay la159 ze159
theorem xb159 (H : Hint) (d : Nat) (ty : TypeId) (ps : Array (Nat × Operand)) (pos : String) (aft : Array Edge) (g : Option (Nat × Bool)) : isX Try.prog H { dst := some d, op := .build 159 ps, type := ty, pos := pos, after := aft, guard := g } = !memN d H.arrs := by kernel_rfl
theorem fa159_0 (v : V) : vFieldAddr Try.prog 159 0 v = faddr 0 v := by kernel_rfl
theorem fg159_0 (s : St) (v : V) : vField Try.prog s 159 0 v = fget 0 1 false v := by kernel_rfl
theorem fa159_1 (v : V) : vFieldAddr Try.prog 159 1 v = faddr 1 v := by kernel_rfl
theorem fg159_1 (s : St) (v : V) : vField Try.prog s 159 1 v = fget 1 1 false v := by kernel_rfl
theorem fa159_2 (v : V) : vFieldAddr Try.prog 159 2 v = faddr 2 v := by kernel_rfl
theorem fg159_2 (s : St) (v : V) : vField Try.prog s 159 2 v = fget 2 1 false v := by kernel_rfl
theorem sz160 : szOf Try.prog 160 = 8 := by kernel_rfl
theorem ag160 : isAgg Try.prog 160 = true := by kernel_rfl
theorem ze160 : zero Try.prog 160 = some [V.int .i64 0, V.str ⟨#[]⟩, V.str ⟨#[]⟩, V.int .i64 0, V.str ⟨#[]⟩, V.slc true 3 [], V.slc true 1 [], V.int .i64 0] := by kernel_rfl
theorem la160 : layOf Try.prog 160 = some [(3, 0, 1), (9, 1, 1), (9, 2, 1), (159, 3, 3), (43, 6, 1), (3, 7, 1)] := by kernel_rfl
theorem bd160 (H : Hint) (d : Nat) (ty : TypeId) (ps : Array (Nat × Operand)) (s : St) : evV Try.prog H d ty (.build 160 ps) s = aggO (buildL Try.prog [(3, 0, 1), (9, 1, 1), (9, 2, 1), (159, 3, 3), (43, 6, 1), (3, 7, 1)] s [V.int .i64 0, V.str ⟨#[]⟩, V.str ⟨#[]⟩, V.int .i64 0, V.str ⟨#[]⟩, V.slc true 3 [], V.slc true 1 [], V.int .i64 0] ps.toList) := build_lay la160 ze160
theorem xb160 (H : Hint) (d : Nat) (ty : TypeId) (ps : Array (Nat × Operand)) (pos : String) (aft : Array Edge) (g : Option (Nat × Bool)) : isX Try.prog H { dst := some d, op := .build 160 ps, type := ty, pos := pos, after := aft, guard := g } = !memN d H.arrs := by kernel_rfl
theorem fa160_0 (v : V) : vFieldAddr Try.prog 160 0 v = faddr 0 v := by kernel_rfl
theorem fg160_0 (s : St) (v : V) : vField Try.prog s 160 0 v = fget 0 1 false v := by kernel_rfl
theorem fa160_1 (v : V) : vFieldAddr Try.prog 160 1 v = faddr 1 v := by kernel_rfl
theorem fg160_1 (s : St) (v : V) : vField Try.prog s 160 1 v = fget 1 1 false v := by kernel_rfl
theorem fa160_2 (v : V) : vFieldAddr Try.prog 160 2 v = faddr 2 v := by kernel_rfl
theorem fg160_2 (s : St) (v : V) : vField Try.prog s 160 2 v = fget 2 1 false v := by kernel_rfl
theorem fa160_3 (v : V) : vFieldAddr Try.prog 160 3 v = faddr 3 v := by kernel_rfl
theorem fg160_3 (s : St) (v : V) : vField Try.prog s 160 3 v = fget 3 3 true v := by kernel_rfl
theorem fa160_4 (v : V) : vFieldAddr Try.prog 160 4 v = faddr 6 v := by kernel_rfl
theorem fg160_4 (s : St) (v : V) : vField Try.prog s 160 4 v = fget 6 1 false v := by kernel_rfl
theorem fa160_5 (v : V) : vFieldAddr Try.prog 160 5 v = faddr 7 v := by kernel_rfl
theorem fg160_5 (s : St) (v : V) : vField Try.prog s 160 5 v = fget 7 1 false v := by kernel_rfl
theorem sz161 : szOf Try.prog 161 = 8 := by kernel_rfl
theorem ag161 : isAgg Try.prog 161 = true := by kernel_rfl
theorem ze161 : zero Try.prog 161 = some [V.int .i64 0, V.str ⟨#[]⟩, V.str ⟨#[]⟩, V.int .i64 0, V.str ⟨#[]⟩, V.slc true 3 [], V.slc true 1 [], V.int .i64 0] := by kernel_rfl
theorem la161 : layOf Try.prog 161 = some [(3, 0, 1), (9, 1, 1), (9, 2, 1), (159, 3, 3), (43, 6, 1), (3, 7, 1)] := by kernel_rfl
theorem bd161 (H : Hint) (d : Nat) (ty : TypeId) (ps : Array (Nat × Operand)) (s : St) : evV Try.prog H d ty (.build 161 ps) s = aggO (buildL Try.prog [(3, 0, 1), (9, 1, 1), (9, 2, 1), (159, 3, 3), (43, 6, 1), (3, 7, 1)] s [V.int .i64 0, V.str ⟨#[]⟩, V.str ⟨#[]⟩, V.int .i64 0, V.str ⟨#[]⟩, V.slc true 3 [], V.slc true 1 [], V.int .i64 0] ps.toList) := build_lay la161 ze161
theorem xb161 (H : Hint) (d : Nat) (ty : TypeId) (ps : Array (Nat × Operand)) (pos : String) (aft : Array Edge) (g : Option (Nat × Bool)) : isX Try.prog H { dst := some d, op := .build 161 ps, type := ty, pos := pos, after := aft, guard := g } = !memN d H.arrs := by kernel_rfl
theorem fa161_0 (v : V) : vFieldAddr Try.prog 161 0 v = faddr 0 v := by kernel_rfl
theorem fg161_0 (s : St) (v : V) : vField Try.prog s 161 0 v = fget 0 1 false v := by kernel_rfl
theorem fa161_1 (v : V) : vFieldAddr Try.prog 161 1 v = faddr 1 v := by kernel_rfl
theorem fg161_1 (s : St) (v : V) : vField Try.prog s 161 1 v = fget 1 1 false v := by kernel_rfl
theorem fa161_2 (v : V) : vFieldAddr Try.prog 161 2 v = faddr 2 v := by kernel_rfl
theorem fg161_2 (s : St) (v : V) : vField Try.prog s 161 2 v = fget 2 1 false v := by kernel_rfl
theorem fa161_3 (v : V) : vFieldAddr Try.prog 161 3 v = faddr 3 v := by kernel_rfl
theorem fg161_3 (s : St) (v : V) : vField Try.prog s 161 3 v = fget 3 3 true v := by kernel_rfl
theorem fa161_4 (v : V) : vFieldAddr Try.prog 161 4 v = faddr 6 v := by kernel_rfl
theorem fg161_4 (s : St) (v : V) : vField Try.prog s 161 4 v = fget 6 1 false v := by kernel_rfl
theorem fa161_5 (v : V) : vFieldAddr Try.prog 161 5 v = faddr 7 v := by kernel_rfl
theorem fg161_5 (s : St) (v : V) : vField Try.prog s 161 5 v = fget 7 1 false v := by kernel_rfl
theorem sz162 : szOf Try.prog 162 = 1 := by kernel_rfl
theorem ag162 : isAgg Try.prog 162 = false := by kernel_rfl
theorem ze162 : zero Try.prog 162 = some [V.nilfn] := by kernel_rfl
theorem sz163 : szOf Try.prog 163 = 1 := by kernel_rfl
theorem ag163 : isAgg Try.prog 163 = false := by kernel_rfl
theorem ze163 : zero Try.prog 163 = some [V.nilfn] := by kernel_rfl
theorem sz164 : szOf Try.prog 164 = 1 := by kernel_rfl
theorem ag164 : isAgg Try.prog 164 = false := by kernel_rfl
theorem ze164 : zero Try.prog 164 = some [V.nilfn] := by kernel_rfl
theorem sz165 : szOf Try.prog 165 = 1 := by kernel_rfl
theorem ag165 : isAgg Try.prog 165 = false := by kernel_rfl
theorem ze165 : zero Try.prog 165 = some [V.nilfn] := by kernel_rfl
theorem sz166 : szOf Try.prog 166 = 1 := by kernel_rfl
theorem ag166 : isAgg Try.prog 166 = false := by kernel_rfl
theorem ze166 : zero Try.prog 166 = some [V.nilfn] := by kernel_rfl
theorem sz167 : szOf Try.prog 167 = 1 := by kernel_rfl
theorem ag167 : isAgg Try.prog 167 = false := by kernel_rfl
theorem ze167 : zero Try.prog 167 = some [V.nilfn] := by kernel_rfl
theorem sz168 : szOf Try.prog 168 = 1 := by kernel_rfl
theorem ag168 : isAgg Try.prog 168 = false := by kernel_rfl
theorem ze168 : zero Try.prog 168 = some [V.nilfn] := by kernel_rfl
theorem sz169 : szOf Try.prog 169 = 1 := by kernel_rfl
theorem ag169 : isAgg Try.prog 169 = false := by kernel_rfl
theorem ze169 : zero Try.prog 169 = some [V.nilfn] := by kernel_rfl
theorem sz170 : szOf Try.prog 170 = 1 := by kernel_rfl
theorem ag170 : isAgg Try.prog 170 = false := by kernel_rfl
theorem ze170 : zero Try.prog 170 = some [V.nilfn] := by kernel_rfl
theorem sz171 : szOf Try.prog 171 = 1 := by kernel_rfl
theorem ag171 : isAgg Try.prog 171 = false := by kernel_rfl
theorem ze171 : zero Try.prog 171 = some [V.nilfn] := by kernel_rfl
theorem sz172 : szOf Try.prog 172 = 1 := by kernel_rfl
theorem ag172 : isAgg Try.prog 172 = false := by kernel_rfl
theorem ze172 : zero Try.prog 172 = some [V.nilfn] := by kernel_rfl
theorem sz173 : szOf Try.prog 173 = 1 := by kernel_rfl
theorem ag173 : isAgg Try.prog 173 = false := by kernel_rfl
theorem ze173 : zero Try.prog 173 = some [V.nilfn] := by kernel_rfl
theorem sz174 : szOf Try.prog 174 = 1 := by kernel_rfl
theorem ag174 : isAgg Try.prog 174 = false := by kernel_rfl
theorem ze174 : zero Try.prog 174 = some [V.nilfn] := by kernel_rfl
theorem sz175 : szOf Try.prog 175 = 1 := by kernel_rfl
theorem ag175 : isAgg Try.prog 175 = false := by kernel_rfl
theorem ze175 : zero Try.prog 175 = some [V.nilfn] := by kernel_rfl
theorem sz176 : szOf Try.prog 176 = 1 := by kernel_rfl
theorem ag176 : isAgg Try.prog 176 = false := by kernel_rfl
theorem ze176 : zero Try.prog 176 = some [V.nilfn] := by kernel_rfl
theorem sz178 : szOf Try.prog 178 = 1 := by kernel_rfl
theorem ag178 : isAgg Try.prog 178 = false := by kernel_rfl
theorem ze178 : zero Try.prog 178 = some [V.nilfn] := by kernel_rfl
theorem sz179 : szOf Try.prog 179 = 1 := by kernel_rfl
theorem ag179 : isAgg Try.prog 179 = false := by kernel_rfl
theorem ze179 : zero Try.prog 179 = some [V.nilfn] := by kernel_rfl
theorem sz180 : szOf Try.prog 180 = 1 := by kernel_rfl
theorem ag180 : isAgg Try.prog 180 = false := by kernel_rfl
theorem ze180 : zero Try.prog 180 = some [V.nilfn] := by kernel_rfl
theorem sz181 : szOf Try.prog 181 = 1 := by kernel_rfl
theorem ag181 : isAgg Try.prog 181 = false := by kernel_rfl
theorem ze181 : zero Try.prog 181 = some [V.nilfn] := by kernel_rfl
theorem sz182 : szOf Try.prog 182 = 1 := by kernel_rfl
theorem ag182 : isAgg Try.prog 182 = false := by kernel_rfl
theorem ze182 : zero Try.prog 182 = some [V.nilfn] := by kernel_rfl
theorem sz183 : szOf Try.prog 183 = 1 := by kernel_rfl
theorem ag183 : isAgg Try.prog 183 = false := by kernel_rfl
theorem ze183 : zero Try.prog 183 = some [V.nilfn] := by kernel_rfl
theorem sz184 : szOf Try.prog 184 = 1 := by kernel_rfl
theorem ag184 : isAgg Try.prog 184 = false := by kernel_rfl
theorem ze184 : zero Try.prog 184 = some [V.nilfn] := by kernel_rfl
theorem sz185 : szOf Try.prog 185 = 4 := by kernel_rfl
theorem ag185 : isAgg Try.prog 185 = true := by kernel_rfl
theorem ze185 : zero Try.prog 185 = some [V.nilp, V.nilp, V.nilp, V.str ⟨#[]⟩] := by kernel_rfl
theorem la185 : layOf Try.prog 185 = some [(17, 0, 1), (17, 1, 1), (17, 2, 1), (9, 3, 1)] := by kernel_rfl
theorem bd185 (H : Hint) (d : Nat) (ty : TypeId) (ps : Array (Nat × Operand)) (s : St) : evV Try.prog H d ty (.build 185 ps) s = aggO (buildL Try.prog [(17, 0, 1), (17, 1, 1), (17, 2, 1), (9, 3, 1)] s [V.nilp, V.nilp, V.nilp, V.str ⟨#[]⟩] ps.toList) := build_lay la185 ze185
theorem xb185 (H : Hint) (d : Nat) (ty : TypeId) (ps : Array (Nat × Operand)) (pos : String) (aft : Array Edge) (g : Option (Nat × Bool)) : isX Try.prog H { dst := some d, op := .build 185 ps, type := ty, pos := pos, after := aft, guard := g } = !memN d H.arrs := by kernel_rfl
theorem fa185_0 (v : V) : vFieldAddr Try.prog 185 0 v = faddr 0 v := by kernel_rfl
theorem fg185_0 (s : St) (v : V) : vField Try.prog s 185 0 v = fget 0 1 false v := by kernel_rfl
theorem fa185_1 (v : V) : vFieldAddr Try.prog 185 1 v = faddr 1 v := by kernel_rfl
theorem fg185_1 (s : St) (v : V) : vField Try.prog s 185 1 v = fget 1 1 false v := by kernel_rfl
theorem fa185_2 (v : V) : vFieldAddr Try.prog 185 2 v = faddr 2 v := by kernel_rfl
theorem fg185_2 (s : St) (v : V) : vField Try.prog s 185 2 v = fget 2 1 false v := by kernel_rfl
theorem fa185_3 (v : V) : vFieldAddr Try.prog 185 3 v = faddr 3 v := by kernel_rfl
theorem fg185_3 (s : St) (v : V) : vField Try.prog s 185 3 v = fget 3 1 false v := by kernel_rfl
theorem sz186 : szOf Try.prog 186 = 4 := by kernel_rfl
theorem ag186 : isAgg Try.prog 186 = true := by kernel_rfl
theorem ze186 : zero Try.prog 186 = some [V.nilp, V.nilp, V.nilp, V.str ⟨#[]⟩] := by kernel_rfl
theorem la186 : layOf Try.prog 186 = some [(17, 0, 1), (17, 1, 1), (17, 2, 1), (9, 3, 1)] := by kernel_rfl
theorem bd186 (H : Hint) (d : Nat) (ty : TypeId) (ps : Array (Nat × Operand)) (s : St) : evV Try.prog H d ty (.build 186 ps) s = aggO (buildL Try.prog [(17, 0, 1), (17, 1, 1), (17, 2, 1), (9, 3, 1)] s [V.nilp, V.nilp, V.nilp, V.str ⟨#[]⟩] ps.toList) := build_lay la186 ze186
theorem xb186 (H : Hint) (d : Nat) (ty : TypeId) (ps : Array (Nat × Operand)) (pos : String) (aft : Array Edge) (g : Option (Nat × Bool)) : isX Try.prog H { dst := some d, op := .build 186 ps, type := ty, pos := pos, after := aft, guard := g } = !memN d H.arrs := by kernel_rfl
theorem fa186_0 (v : V) : vFieldAddr Try.prog 186 0 v = faddr 0 v := by kernel_rfl
theorem fg186_0 (s : St) (v : V) : vField Try.prog s 186 0 v = fget 0 1 false v := by kernel_rfl
theorem fa186_1 (v : V) : vFieldAddr Try.prog 186 1 v = faddr 1 v := by kernel_rfl
theorem fg186_1 (s : St) (v : V) : vField Try.prog s 186 1 v = fget 1 1 false v := by kernel_rfl
theorem fa186_2 (v : V) : vFieldAddr Try.prog 186 2 v = faddr 2 v := by kernel_rfl
theorem fg186_2 (s : St) (v : V) : vField Try.prog s 186 2 v = fget 2 1 false v := by kernel_rfl
theorem fa186_3 (v : V) : vFieldAddr Try.prog 186 3 v = faddr 3 v := by kernel_rfl
theorem fg186_3 (s : St) (v : V) : vField Try.prog s 186 3 v = fget 3 1 false v := by kernel_rfl
theorem xa187 (H : Hint) (d : Nat) (ty : TypeId) (ps : Array (Nat × Operand)) (pos : String) (aft : Array Edge) (g : Option (Nat × Bool)) : isX Try.prog H { dst := some d, op := .build 187 ps, type := ty, pos := pos, after := aft, guard := g } = memN d H.arrs := by kernel_rfl
theorem u187 : Try.prog.underlying 187 = some (.array 0 16) := by kernel_rfl
theorem sz187 : szOf Try.prog 187 = 0 := by kernel_rfl
theorem ag187 : isAgg Try.prog 187 = true := by kernel_rfl
theorem eo187 : elemOf Try.prog 187 = 16 := by kernel_rfl
theorem es187 : elemSz Try.prog 187 = 1 := by kernel_rfl
theorem ze187 : zero Try.prog 187 = some [] := by kernel_rfl
theorem sz188 : szOf Try.prog 188 = 0 := by kernel_rfl
theorem ag188 : isAgg Try.prog 188 = true := by kernel_rfl
theorem ze188 : zero Try.prog 188 = some [] := by kernel_rfl
theorem sz189 : szOf Try.prog 189 = 0 := by kernel_rfl
theorem ag189 : isAgg Try.prog 189 = true := by kernel_rfl
theorem ze189 : zero Try.prog 189 = some [] := by kernel_rfl
theorem sz190 : szOf Try.prog 190 = 1 := by kernel_rfl
theorem ag190 : isAgg Try.prog 190 = false := by kernel_rfl
theorem ze190 : zero Try.prog 190 = some [V.nilfn] := by kernel_rfl
theorem u191 : Try.prog.underlying 191 = some (.int .u32) := by kernel_rfl
theorem sz191 : szOf Try.prog 191 = 1 := by kernel_rfl
theorem ag191 : isAgg Try.prog 191 = false := by kernel_rfl
theorem ze191 : zero Try.prog 191 = some [V.int .u32 0] := by kernel_rfl
theorem u192 : Try.prog.underlying 192 = some (.int .u8) := by kernel_rfl
theorem sz192 : szOf Try.prog 192 = 1 := by kernel_rfl
theorem ag192 : isAgg Try.prog 192 = false := by kernel_rfl
theorem ze192 : zero Try.prog 192 = some [V.int .u8 0] := by kernel_rfl
theorem u193 : Try.prog.underlying 193 = some (.int .u8) := by kernel_rfl
theorem sz193 : szOf Try.prog 193 = 1 := by kernel_rfl
theorem ag193 : isAgg Try.prog 193 = false := by kernel_rfl
theorem ze193 : zero Try.prog 193 = some [V.int .u8 0] := by kernel_rfl
theorem sz194 : szOf Try.prog 194 = 1 := by kernel_rfl
theorem ag194 : isAgg Try.prog 194 = false := by kernel_rfl
theorem ze194 : zero Try.prog 194 = some [V.nilfn] := by kernel_rfl
theorem u195 : Try.prog.underlying 195 = some (.pointer 5) := by kernel_rfl
theorem sz195 : szOf Try.prog 195 = 1 := by kernel_rfl
theorem ag195 : isAgg Try.prog 195 = false := by kernel_rfl
theorem ze195 : zero Try.prog 195 = some [V.nilp] := by kernel_rfl
theorem u196 : Try.prog.underlying 196 = some (.int .i32) := by kernel_rfl
theorem sz196 : szOf Try.prog 196 = 1 := by kernel_rfl
theorem ag196 : isAgg Try.prog 196 = false := by kernel_rfl
theorem ze196 : zero Try.prog 196 = some [V.int .i32 0] := by kernel_rfl
theorem u197 : Try.prog.underlying 197 = some (.int .i32) := by kernel_rfl
theorem sz197 : szOf Try.prog 197 = 1 := by kernel_rfl
theorem ag197 : isAgg Try.prog 197 = false := by kernel_rfl
theorem ze197 : zero Try.prog 197 = some [V.int .i32 0] := by kernel_rfl
theorem sz198 : szOf Try.prog 198 = 11 := by kernel_rfl
theorem ag198 : isAgg Try.prog 198 = true := by kernel_rfl
theorem ze198 : zero Try.prog 198 = some [V.int .u64 0, V.int .u64 0, V.int .u32 0, V.int .u8 0, V.int .u8 0, V.int .u8 0, V.int .u8 0, V.nilfn, V.nilp, V.int .i32 0, V.int .i32 0] := by kernel_rfl
theorem la198 : layOf Try.prog 198 = some [(12, 0, 1), (12, 1, 1), (191, 2, 1), (192, 3, 1), (5, 4, 1), (5, 5, 1), (193, 6, 1), (194, 7, 1), (195, 8, 1), (196, 9, 1), (197, 10, 1)] := by kernel_rfl
theorem bd198 (H : Hint) (d : Nat) (ty : TypeId) (ps : Array (Nat × Operand)) (s : St) : evV Try.prog H d ty (.build 198 ps) s = aggO (buildL Try.prog [(12, 0, 1), (12, 1, 1), (191, 2, 1), (192, 3, 1), (5, 4, 1), (5, 5, 1), (193, 6, 1), (194, 7, 1), (195, 8, 1), (196, 9, 1), (197, 10, 1)] s [V.int .u64 0, V.int .u64 0, V.int .u32 0, V.int .u8 0, V.int .u8 0, V.int .u8 0, V.int .u8 0, V.nilfn, V.nilp, V.int .i32 0, V.int .i32 0] ps.toList) := build_lay la198 ze198
theorem xb198 (H : Hint) (d : Nat) (ty : TypeId) (ps : Array (Nat × Operand)) (pos : String) (aft : Array Edge) (g : Option (Nat × Bool)) : isX Try.prog H { dst := some d, op := .build 198 ps, type := ty, pos := pos, after := aft, guard := g } = !memN d H.arrs := by kernel_rfl
theorem fa198_0 (v : V) : vFieldAddr Try.prog 198 0 v = faddr 0 v := by kernel_rfl
theorem fg198_0 (s : St) (v : V) : vField Try.prog s 198 0 v = fget 0 1 false v := by kernel_rfl
theorem fa198_1 (v : V) : vFieldAddr Try.prog 198 1 v = faddr 1 v := by kernel_rfl
theorem fg198_1 (s : St) (v : V) : vField Try.prog s 198 1 v = fget 1 1 false v := by kernel_rfl
theorem fa198_2 (v : V) : vFieldAddr Try.prog 198 2 v = faddr 2 v := by kernel_rfl
theorem fg198_2 (s : St) (v : V) : vField Try.prog s 198 2 v = fget 2 1 false v := by kernel_rfl
theorem fa198_3 (v : V) : vFieldAddr Try.prog 198 3 v = faddr 3 v := by kernel_rfl
theorem fg198_3 (s : St) (v : V) : vField Try.prog s 198 3 v = fget 3 1 false v := by kernel_rfl
theorem fa198_4 (v : V) : vFieldAddr Try.prog 198 4 v = faddr 4 v := by kernel_rfl
theorem fg198_4 (s : St) (v : V) : vField Try.prog s 198 4 v = fget 4 1 false v := by kernel_rfl
theorem fa198_5 (v : V) : vFieldAddr Try.prog 198 5 v = faddr 5 v := by kernel_rfl
theorem fg198_5 (s : St) (v : V) : vField Try.prog s 198 5 v = fget 5 1 false v := by kernel_rfl
theorem fa198_6 (v : V) : vFieldAddr Try.prog 198 6 v = faddr 6 v := by kernel_rfl
theorem fg198_6 (s : St) (v : V) : vField Try.prog s 198 6 v = fget 6 1 false v := by kernel_rfl
theorem fa198_7 (v : V) : vFieldAddr Try.prog 198 7 v = faddr 7 v := by kernel_rfl
theorem fg198_7 (s : St) (v : V) : vField Try.prog s 198 7 v = fget 7 1 false v := by kernel_rfl
theorem fa198_8 (v : V) : vFieldAddr Try.prog 198 8 v = faddr 8 v := by kernel_rfl
theorem fg198_8 (s : St) (v : V) : vField Try.prog s 198 8 v = fget 8 1 false v := by kernel_rfl
theorem fa198_9 (v : V) : vFieldAddr Try.prog 198 9 v = faddr 9 v := by kernel_rfl
theorem fg198_9 (s : St) (v : V) : vField Try.prog s 198 9 v = fget 9 1 false v := by kernel_rfl
theorem fa198_10 (v : V) : vFieldAddr Try.prog 198 10 v = faddr 10 v := by kernel_rfl
theorem fg198_10 (s : St) (v : V) : vField Try.prog s 198 10 v = fget 10 1 false v := by kernel_rfl
theorem sz199 : szOf Try.prog 199 = 11 := by kernel_rfl
theorem ag199 : isAgg Try.prog 199 = true := by kernel_rfl
theorem ze199 : zero Try.prog 199 = some [V.int .u64 0, V.int .u64 0, V.int .u32 0, V.int .u8 0, V.int .u8 0, V.int .u8 0, V.int .u8 0, V.nilfn, V.nilp, V.int .i32 0, V.int .i32 0] := by kernel_rfl
theorem la199 : layOf Try.prog 199 = some [(12, 0, 1), (12, 1, 1), (191, 2, 1), (192, 3, 1), (5, 4, 1), (5, 5, 1), (193, 6, 1), (194, 7, 1), (195, 8, 1), (196, 9, 1), (197, 10, 1)] := by kernel_rfl
theorem bd199 (H : Hint) (d : Nat) (ty : TypeId) (ps : Array (Nat × Operand)) (s : St) : evV Try.prog H d ty (.build 199 ps) s = aggO (buildL Try.prog [(12, 0, 1), (12, 1, 1), (191, 2, 1), (192, 3, 1), (5, 4, 1), (5, 5, 1), (193, 6, 1), (194, 7, 1), (195, 8, 1), (196, 9, 1), (197, 10, 1)] s [V.int .u64 0, V.int .u64 0, V.int .u32 0, V.int .u8 0, V.int .u8 0, V.int .u8 0, V.int .u8 0, V.nilfn, V.nilp, V.int .i32 0, V.int .i32 0] ps.toList) := build_lay la199 ze199
theorem xb199 (H : Hint) (d : Nat) (ty : TypeId) (ps : Array (Nat × Operand)) (pos : String) (aft : Array Edge) (g : Option (Nat × Bool)) : isX Try.prog H { dst := some d, op := .build 199 ps, type := ty, pos := pos, after := aft, guard := g } = !memN d H.arrs := by kernel_rfl
theorem fa199_0 (v : V) : vFieldAddr Try.prog 199 0 v = faddr 0 v := by kernel_rfl
theorem fg199_0 (s : St) (v : V) : vField Try.prog s 199 0 v = fget 0 1 false v := by kernel_rfl
theorem fa199_1 (v : V) : vFieldAddr Try.prog 199 1 v = faddr 1 v := by kernel_rfl
theorem fg199_1 (s : St) (v : V) : vField Try.prog s 199 1 v = fget 1 1 false v := by kernel_rfl
theorem fa199_2 (v : V) : vFieldAddr Try.prog 199 2 v = faddr 2 v := by kernel_rfl
theorem fg199_2 (s : St) (v : V) : vField Try.prog s 199 2 v = fget 2 1 false v := by kernel_rfl
theorem fa199_3 (v : V) : vFieldAddr Try.prog 199 3 v = faddr 3 v := by kernel_rfl
theorem fg199_3 (s : St) (v : V) : vField Try.prog s 199 3 v = fget 3 1 false v := by kernel_rfl
theorem fa199_4 (v : V) : vFieldAddr Try.prog 199 4 v = faddr 4 v := by kernel_rfl
theorem fg199_4 (s : St) (v : V) : vField Try.prog s 199 4 v = fget 4 1 false v := by kernel_rfl
theorem fa199_5 (v : V) : vFieldAddr Try.prog 199 5 v = faddr 5 v := by kernel_rfl
theorem fg199_5 (s : St) (v : V) : vField Try.prog s 199 5 v = fget 5 1 false v := by kernel_rfl
theorem fa199_6 (v : V) : vFieldAddr Try.prog 199 6 v = faddr 6 v := by kernel_rfl
theorem fg199_6 (s : St) (v : V) : vField Try.prog s 199 6 v = fget 6 1 false v := by kernel_rfl
theorem fa199_7 (v : V) : vFieldAddr Try.prog 199 7 v = faddr 7 v := by kernel_rfl
theorem fg199_7 (s : St) (v : V) : vField Try.prog s 199 7 v = fget 7 1 false v := by kernel_rfl
theorem fa199_8 (v : V) : vFieldAddr Try.prog 199 8 v = faddr 8 v := by kernel_rfl
theorem fg199_8 (s : St) (v : V) : vField Try.prog s 199 8 v = fget 8 1 false v := by kernel_rfl
theorem fa199_9 (v : V) : vFieldAddr Try.prog 199 9 v = faddr 9 v := by kernel_rfl
theorem fg199_9 (s : St) (v : V) : vField Try.prog s 199 9 v = fget 9 1 false v := by kernel_rfl
theorem fa199_10 (v : V) : vFieldAddr Try.prog 199 10 v = faddr 10 v := by kernel_rfl
theorem fg199_10 (s : St) (v : V) : vField Try.prog s 199 10 v = fget 10 1 false v := by kernel_rfl
theorem ev3 (x y : Int) : eqV Try.prog 3 (.int .i64 x) (.int .i64 y) = some (x == y) := by kernel_rfl
theorem ev142 (x0 y0 x1 y1 x2 y2 x3 y3 : Int) : eqV Try.prog 142 (.agg [V.int .i64 x0, V.int .i64 x1, V.int .i64 x2, V.int .i64 x3]) (.agg [V.int .i64 y0, V.int .i64 y1, V.int .i64 y2, V.int .i64 y3]) = some ((x0 == y0) && ((x1 == y1) && ((x2 == y2) && ((x3 == y3) && true)))) := by kernel_rfl
theorem by3 : (Try.prog.bytesOf 3) = 8 := by kernel_rfl
theorem by4 : (Try.prog.bytesOf 4) = 1 := by kernel_rfl
theorem by5 : (Try.prog.bytesOf 5) = 1 := by kernel_rfl
theorem by9 : (Try.prog.bytesOf 9) = 16 := by kernel_rfl
theorem by43 : (Try.prog.bytesOf 43) = 24 := by kernel_rfl
theorem by106 : (Try.prog.bytesOf 106) = 24 := by kernel_rfl
theorem by109 : (Try.prog.bytesOf 109) = 80 := by kernel_rfl
theorem by129 : (Try.prog.bytesOf 129) = 48 := by kernel_rfl
theorem by131 : (Try.prog.bytesOf 131) = 120 := by kernel_rfl
theorem by151 : (Try.prog.bytesOf 151) = 2 := by kernel_rfl
theorem by159 : (Try.prog.bytesOf 159) = 48 := by kernel_rfl
theorem by161 : (Try.prog.bytesOf 161) = 120 := by kernel_rfl
attribute [go_sem] sz1 ag1 ze1 u2 sz2 ag2 ze2 u3 sz3 ag3 ze3 u4 sz4 ag4 ze4 ev4 u5 sz5 ag5 ze5 u6 sz6 ag6 ze6 sz7 ag7 ze7 fa7_0 fg7_0 fa7_1 fg7_1 fa7_2 fg7_2 fa7_3 fg7_3 sz8 ag8 ze8 fa8_0 fg8_0 fa8_1 fg8_1 fa8_2 fg8_2 fa8_3 fg8_3 u9 sz9 ag9 ze9 u10 sz10 ag10 ze10 u11 sz11 ag11 ze11 u12 sz12 ag12 ze12 sz13 ag13 ze13 fa13_0 fg13_0 fa13_1 fg13_1 sz14 ag14 ze14 fa14_0 fg14_0 fa14_1 fg14_1 u15 sz15 ag15 ze15 u16 sz16 ag16 ze16 u17 sz17 ag17 ze17 sz18 ag18 ze18 fa18_0 fg18_0 sz19 ag19 ze19 fa19_0 fg19_0 u21 sz21 ag21 ze21 u22 sz22 ag22 eo22 es22 gr22 df22 ze22 u23 sz23 ag23 eo23 es23 gr23 df23 ze23 sz24 ag24 ze24 fa24_0 fg24_0 fa24_1 fg24_1 sz25 ag25 ze25 fa25_0 fg25_0 fa25_1 fg25_1 sz26 ag26 ze26 sz27 ag27 ze27 fa27_0 fg27_0 fa27_1 fg27_1 sz29 ag29 ze29 sz30 ag30 ze30 sz31 ag31 ze31 sz32 ag32 ze32 sz33 ag33 ze33 sz34 ag34 ze34 fa34_0 fg34_0 fa34_1 fg34_1 fa34_2 fg34_2 sz35 ag35 ze35 fa35_0 fg35_0 fa35_1 fg35_1 fa35_2 fg35_2 ev35 eg35 sz36 ag36 ze36 sz37 ag37 ze37 sz38 ag38 ze38 fa38_0 fg38_0 fa38_1 fg38_1 fa38_2 fg38_2 ev38 eg38 sz39 ag39 ze39 sz40 ag40 ze40 sz41 ag41 ze41 fa41_0 fg41_0 fa41_1 fg41_1 sz42 ag42 ze42 fa42_0 fg42_0 fa42_1 fg42_1 ev42 eg42 u43 sz43 ag43 eo43 es43 gr43 df43 ze43 sz44 ag44 ze44 fa44_0 fg44_0 fa44_1 fg44_1 fa44_2 fg44_2 sz45 ag45 ze45 fa45_0 fg45_0 fa45_1 fg45_1 fa45_2 fg45_2 sz46 ag46 ze46 fa46_0 fg46_0 fa46_1 fg46_1 fa46_2 fg46_2 sz47 ag47 ze47 fa47_0 fg47_0 fa47_1 fg47_1 fa47_2 fg47_2 sz48 ag48 ze48 fa48_0 fg48_0 fa48_1 fg48_1 fa48_2 fg48_2 sz49 ag49 ze49 fa49_0 fg49_0 fa49_1 fg49_1 fa49_2 fg49_2 sz50 ag50 ze50 sz51 ag51 ze51 u52 sz52 ag52 eo52 es52 gr52 df52 ze52 sz53 ag53 ze53 sz54 ag54 ze54 fa54_0 fg54_0 fa54_1 fg54_1 ev54 eg54 sz55 ag55 ze55 fa55_0 fg55_0 fa55_1 fg55_1 fa55_2 fg55_2 sz56 ag56 ze56 fa56_0 fg56_0 fa56_1 fg56_1 fa56_2 fg56_2 sz57 ag57 ze57 fa57_0 fg57_0 fa57_1 fg57_1 fa57_2 fg57_2 sz58 ag58 ze58 sz59 ag59 ze59 fa59_0 fg59_0 fa59_1 fg59_1 fa59_2 fg59_2 sz60 ag60 ze60 sz61 ag61 ze61 sz62 ag62 ze62 sz63 ag63 ze63 sz64 ag64 ze64 sz65 ag65 ze65 sz66 ag66 ze66 sz67 ag67 ze67 u68 sz68 ag68 eo68 es68 gr68 df68 ze68 sz69 ag69 ze69 fa69_0 fg69_0 sz70 ag70 ze70 fa70_0 fg70_0 sz71 ag71 ze71 u72 sz72 ag72 eo72 es72 gr72 df72 ze72 sz73 ag73 ze73 fa73_0 fg73_0 sz74 ag74 ze74 fa74_0 fg74_0 sz76 ag76 ze76 sz77 ag77 ze77 sz78 ag78 ze78 sz79 ag79 ze79 sz80 ag80 ze80 sz81 ag81 ze81 sz82 ag82 ze82 sz83 ag83 ze83 sz84 ag84 ze84 sz85 ag85 ze85 sz86 ag86 ze86 sz87 ag87 ze87 sz88 ag88 ze88 sz90 ag90 ze90 sz91 ag91 ze91 sz92 ag92 ze92 sz93 ag93 ze93 sz94 ag94 ze94 sz95 ag95 ze95 sz96 ag96 ze96 sz97 ag97 ze97 sz98 ag98 ze98 sz99 ag99 ze99 sz100 ag100 ze100 sz101 ag101 ze101 u102 sz102 ag102 eo102 es102 gr102 df102 ze102 sz103 ag103 ze103 sz104 ag104 ze104 sz105 ag105 ze105 fa105_0 fg105_0 fa105_1 fg105_1 sz106 ag106 ze106 fa106_0 fg106_0 fa106_1 fg106_1 ev106 eg106 sz107 ag107 ze107 sz108 ag108 ze108 fa108_0 fg108_0 fa108_1 fg108_1 sz109 ag109 ze109 fa109_0 fg109_0 fa109_1 fg109_1 sz110 ag110 ze110 sz111 ag111 ze111 sz112 ag112 ze112 sz113 ag113 ze113 sz114 ag114 ze114 sz115 ag115 ze115 sz116 ag116 ze116 sz117 ag117 ze117 sz118 ag118 ze118 sz119 ag119 ze119 sz120 ag120 ze120 sz121 ag121 ze121 sz122 ag122 ze122 sz123 ag123 ze123 sz124 ag124 ze124 sz125 ag125 ze125 sz126 ag126 ze126 u127 sz127 ag127 eo127 es127 gr127 df127 ze127 sz128 ag128 ze128 fa128_0 fg128_0 fa128_1 fg128_1 fa128_2 fg128_2 sz129 ag129 ze129 fa129_0 fg129_0 fa129_1 fg129_1 fa129_2 fg129_2 sz130 ag130 ze130 fa130_0 fg130_0 fa130_1 fg130_1 fa130_2 fg130_2 fa130_3 fg130_3 fa130_4 fg130_4 fa130_5 fg130_5 sz131 ag131 ze131 fa131_0 fg131_0 fa131_1 fg131_1 fa131_2 fg131_2 fa131_3 fg131_3 fa131_4 fg131_4 fa131_5 fg131_5 sz132 ag132 ze132 sz133 ag133 ze133 sz134 ag134 ze134 sz135 ag135 ze135 sz136 ag136 ze136 sz137 ag137 ze137 sz138 ag138 ze138 sz139 ag139 ze139 u140 sz140 ag140 u141 sz141 ag141 u142 sz142 ag142 eo142 es142 ze142 sz143 ag143 ze143 u144 sz144 ag144 eo144 es144 gr144 df144 ze144 sz145 ag145 ze145 sz146 ag146 ze146 sz147 ag147 ze147 sz148 ag148 ze148 sz149 ag149 ze149 sz150 ag150 ze150 u151 sz151 ag151 eo151 es151 ze151 u152 sz152 ag152 eo152 es152 gr152 df152 ze152 u153 sz153 ag153 eo153 es153 gr153 df153 ze153 sz154 ag154 ze154 sz155 ag155 ze155 sz156 ag156 ze156 u157 sz157 ag157 eo157 es157 gr157 df157 ze157 sz158 ag158 ze158 fa158_0 fg158_0 fa158_1 fg158_1 fa158_2 fg158_2 sz159 ag159 ze159 fa159_0 fg159_0 fa159_1 fg159_1 fa159_2 fg159_2 sz160 ag160 ze160 fa160_0 fg160_0 fa160_1 fg160_1 fa160_2 fg160_2 fa160_3 fg160_3 fa160_4 fg160_4 fa160_5 fg160_5 sz161 ag161 ze161 fa161_0 fg161_0 fa161_1 fg161_1 fa161_2 fg161_2 fa161_3 fg161_3 fa161_4 fg161_4 fa161_5 fg161_5 sz162 ag162 ze162 sz163 ag163 ze163 sz164 ag164 ze164 sz165 ag165 ze165 sz166 ag166 ze166 sz167 ag167 ze167 sz168 ag168 ze168 sz169 ag169 ze169 sz170 ag170 ze170 sz171 ag171 ze171 sz172 ag172 ze172 sz173 ag173 ze173 sz174 ag174 ze174 sz175 ag175 ze175 sz176 ag176 ze176 sz178 ag178 ze178 sz179 ag179 ze179 sz180 ag180 ze180 sz181 ag181 ze181 sz182 ag182 ze182 sz183 ag183 ze183 sz184 ag184 ze184 sz185 ag185 ze185 fa185_0 fg185_0 fa185_1 fg185_1 fa185_2 fg185_2 fa185_3 fg185_3 sz186 ag186 ze186 fa186_0 fg186_0 fa186_1 fg186_1 fa186_2 fg186_2 fa186_3 fg186_3 u187 sz187 ag187 eo187 es187 ze187 sz188 ag188 ze188 sz189 ag189 ze189 sz190 ag190 ze190 u191 sz191 ag191 ze191 u192 sz192 ag192 ze192 u193 sz193 ag193 ze193 sz194 ag194 ze194 u195 sz195 ag195 ze195 u196 sz196 ag196 ze196 u197 sz197 ag197 ze197 sz198 ag198 ze198 fa198_0 fg198_0 fa198_1 fg198_1 fa198_2 fg198_2 fa198_3 fg198_3 fa198_4 fg198_4 fa198_5 fg198_5 fa198_6 fg198_6 fa198_7 fg198_7 fa198_8 fg198_8 fa198_9 fg198_9 fa198_10 fg198_10 sz199 ag199 ze199 fa199_0 fg199_0 fa199_1 fg199_1 fa199_2 fg199_2 fa199_3 fg199_3 fa199_4 fg199_4 fa199_5 fg199_5 fa199_6 fg199_6 fa199_7 fg199_7 fa199_8 fg199_8 fa199_9 fg199_9 fa199_10 fg199_10 ev3 ev142 by3 by4 by5 by9 by43 by106 by109 by129 by131 by151 by159 by161
attribute [go_sem high] bd7 xb7 bd8 xb8 bd13 xb13 bd14 xb14 bd18 xb18 bd19 xb19 bd24 xb24 bd25 xb25 bd27 xb27 bd34 xb34 bd35 xb35 bd38 xb38 bd41 xb41 bd42 xb42 bd44 xb44 bd45 xb45 bd46 xb46 bd47 xb47 bd48 xb48 bd49 xb49 bd54 xb54 bd55 xb55 bd56 xb56 bd57 xb57 bd59 xb59 bd69 xb69 bd70 xb70 bd73 xb73 bd74 xb74 bd105 xb105 bd106 xb106 bd108 xb108 bd109 xb109 bd128 xb128 bd129 xb129 bd130 xb130 bd131 xb131 xa142 xa151 bd158 xb158 bd159 xb159 bd160 xb160 bd161 xb161 bd185 xb185 bd186 xb186 xa187 bd198 xb198 bd199 xb199
end Go.Ev
