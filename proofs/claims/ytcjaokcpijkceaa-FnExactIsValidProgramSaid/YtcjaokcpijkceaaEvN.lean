/- Facts on the seat's types, printed by a program. -/
import Derived.Test.YtcjaokcpijkceaaProg
import Derived.Test.YtcjaokcpijkceaaEvJ
set_option linter.unusedVariables false
set_option linter.unusedSimpArgs false
namespace Go.Ev
open Go Go.Proofs
set_option maxRecDepth 10000
theorem sz1 : szOf Try.prog 1 = 1 := by kernel_rfl
theorem ag1 : isAgg Try.prog 1 = false := by kernel_rfl
theorem ze1 : zero Try.prog 1 = some [V.nilfn] := by kernel_rfl
theorem u2 : Try.prog.underlying 2 = some (.int .i64) := by kernel_rfl
theorem sz2 : szOf Try.prog 2 = 1 := by kernel_rfl
theorem ag2 : isAgg Try.prog 2 = false := by kernel_rfl
theorem ze2 : zero Try.prog 2 = some [V.int .i64 0] := by kernel_rfl
theorem u3 : Try.prog.underlying 3 = some (.int .i64) := by kernel_rfl
theorem sz3 : szOf Try.prog 3 = 1 := by kernel_rfl
theorem ag3 : isAgg Try.prog 3 = false := by kernel_rfl
theorem ze3 : zero Try.prog 3 = some [V.int .i64 0] := by kernel_rfl
theorem u4 : Try.prog.underlying 4 = some .bool := by kernel_rfl
theorem sz4 : szOf Try.prog 4 = 1 := by kernel_rfl
theorem ag4 : isAgg Try.prog 4 = false := by kernel_rfl
theorem ze4 : zero Try.prog 4 = some [V.bool false] := by kernel_rfl
theorem ev4 (x y : Bool) : eqV Try.prog 4 (.bool x) (.bool y) = some (x == y) := by kernel_rfl
theorem u5 : Try.prog.underlying 5 = some (.int .u8) := by kernel_rfl
theorem sz5 : szOf Try.prog 5 = 1 := by kernel_rfl
theorem ag5 : isAgg Try.prog 5 = false := by kernel_rfl
theorem ze5 : zero Try.prog 5 = some [V.int .u8 0] := by kernel_rfl
theorem u6 : Try.prog.underlying 6 = some (.int .u8) := by kernel_rfl
theorem sz6 : szOf Try.prog 6 = 1 := by kernel_rfl
theorem ag6 : isAgg Try.prog 6 = false := by kernel_rfl
theorem ze6 : zero Try.prog 6 = some [V.int .u8 0] := by kernel_rfl
theorem sz7 : szOf Try.prog 7 = 4 := by kernel_rfl
theorem ag7 : isAgg Try.prog 7 = true := by kernel_rfl
theorem ze7 : zero Try.prog 7 = some [V.int .i64 0, V.int .i64 0, V.bool false, V.int .u8 0] := by kernel_rfl
theorem la7 : layOf Try.prog 7 = some [(2, 0, 1), (3, 1, 1), (4, 2, 1), (6, 3, 1)] := by kernel_rfl
theorem bd7 (H : Hint) (d : Nat) (ty : TypeId) (ps : Array (Nat × Operand)) (s : St) : evV Try.prog H d ty (.build 7 ps) s = aggO (buildL Try.prog [(2, 0, 1), (3, 1, 1), (4, 2, 1), (6, 3, 1)] s [V.int .i64 0, V.int .i64 0, V.bool false, V.int .u8 0] ps.toList) := build_lay la7 ze7
theorem xb7 (H : Hint) (d : Nat) (ty : TypeId) (ps : Array (Nat × Operand)) (pos : String) (aft : Array Edge) (g : Option (Nat × Bool)) : isX Try.prog H { dst := some d, op := .build 7 ps, type := ty, pos := pos, after := aft, guard := g } = !memN d H.arrs := by kernel_rfl
theorem fa7_0 (v : V) : vFieldAddr Try.prog 7 0 v = faddr 0 v := by kernel_rfl
theorem fg7_0 (s : St) (v : V) : vField Try.prog s 7 0 v = fget 0 1 false v := by kernel_rfl
theorem fa7_1 (v : V) : vFieldAddr Try.prog 7 1 v = faddr 1 v := by kernel_rfl
theorem fg7_1 (s : St) (v : V) : vField Try.prog s 7 1 v = fget 1 1 false v := by kernel_rfl
theorem fa7_2 (v : V) : vFieldAddr Try.prog 7 2 v = faddr 2 v := by kernel_rfl
theorem fg7_2 (s : St) (v : V) : vField Try.prog s 7 2 v = fget 2 1 false v := by kernel_rfl
theorem fa7_3 (v : V) : vFieldAddr Try.prog 7 3 v = faddr 3 v := by kernel_rfl
theorem fg7_3 (s : St) (v : V) : vField Try.prog s 7 3 v = fget 3 1 false v := by kernel_rfl
theorem sz8 : szOf Try.prog 8 = 4 := by kernel_rfl
theorem ag8 : isAgg Try.prog 8 = true := by kernel_rfl
theorem ze8 : zero Try.prog 8 = some [V.int .i64 0, V.int .i64 0, V.bool false, V.int .u8 0] := by kernel_rfl
theorem la8 : layOf Try.prog 8 = some [(2, 0, 1), (3, 1, 1), (4, 2, 1), (6, 3, 1)] := by kernel_rfl
theorem bd8 (H : Hint) (d : Nat) (ty : TypeId) (ps : Array (Nat × Operand)) (s : St) : evV Try.prog H d ty (.build 8 ps) s = aggO (buildL Try.prog [(2, 0, 1), (3, 1, 1), (4, 2, 1), (6, 3, 1)] s [V.int .i64 0, V.int .i64 0, V.bool false, V.int .u8 0] ps.toList) := build_lay la8 ze8
theorem xb8 (H : Hint) (d : Nat) (ty : TypeId) (ps : Array (Nat × Operand)) (pos : String) (aft : Array Edge) (g : Option (Nat × Bool)) : isX Try.prog H { dst := some d, op := .build 8 ps, type := ty, pos := pos, after := aft, guard := g } = !memN d H.arrs := by kernel_rfl
theorem fa8_0 (v : V) : vFieldAddr Try.prog 8 0 v = faddr 0 v := by kernel_rfl
theorem fg8_0 (s : St) (v : V) : vField Try.prog s 8 0 v = fget 0 1 false v := by kernel_rfl
theorem fa8_1 (v : V) : vFieldAddr Try.prog 8 1 v = faddr 1 v := by kernel_rfl
theorem fg8_1 (s : St) (v : V) : vField Try.prog s 8 1 v = fget 1 1 false v := by kernel_rfl
theorem fa8_2 (v : V) : vFieldAddr Try.prog 8 2 v = faddr 2 v := by kernel_rfl
theorem fg8_2 (s : St) (v : V) : vField Try.prog s 8 2 v = fget 2 1 false v := by kernel_rfl
theorem fa8_3 (v : V) : vFieldAddr Try.prog 8 3 v = faddr 3 v := by kernel_rfl
theorem fg8_3 (s : St) (v : V) : vField Try.prog s 8 3 v = fget 3 1 false v := by kernel_rfl
theorem u9 : Try.prog.underlying 9 = some .string := by kernel_rfl
theorem sz9 : szOf Try.prog 9 = 1 := by kernel_rfl
theorem ag9 : isAgg Try.prog 9 = false := by kernel_rfl
theorem ze9 : zero Try.prog 9 = some [V.str ⟨#[]⟩] := by kernel_rfl
theorem u10 : Try.prog.underlying 10 = some .string := by kernel_rfl
theorem sz10 : szOf Try.prog 10 = 1 := by kernel_rfl
theorem ag10 : isAgg Try.prog 10 = false := by kernel_rfl
theorem ze10 : zero Try.prog 10 = some [V.str ⟨#[]⟩] := by kernel_rfl
theorem u11 : Try.prog.underlying 11 = some .string := by kernel_rfl
theorem sz11 : szOf Try.prog 11 = 1 := by kernel_rfl
theorem ag11 : isAgg Try.prog 11 = false := by kernel_rfl
theorem ze11 : zero Try.prog 11 = some [V.str ⟨#[]⟩] := by kernel_rfl
theorem u12 : Try.prog.underlying 12 = some (.int .u64) := by kernel_rfl
theorem sz12 : szOf Try.prog 12 = 1 := by kernel_rfl
theorem ag12 : isAgg Try.prog 12 = false := by kernel_rfl
theorem ze12 : zero Try.prog 12 = some [V.int .u64 0] := by kernel_rfl
theorem sz13 : szOf Try.prog 13 = 2 := by kernel_rfl
theorem ag13 : isAgg Try.prog 13 = true := by kernel_rfl
theorem ze13 : zero Try.prog 13 = some [V.str ⟨#[]⟩, V.int .u64 0] := by kernel_rfl
theorem la13 : layOf Try.prog 13 = some [(9, 0, 1), (12, 1, 1)] := by kernel_rfl
theorem bd13 (H : Hint) (d : Nat) (ty : TypeId) (ps : Array (Nat × Operand)) (s : St) : evV Try.prog H d ty (.build 13 ps) s = aggO (buildL Try.prog [(9, 0, 1), (12, 1, 1)] s [V.str ⟨#[]⟩, V.int .u64 0] ps.toList) := build_lay la13 ze13
theorem xb13 (H : Hint) (d : Nat) (ty : TypeId) (ps : Array (Nat × Operand)) (pos : String) (aft : Array Edge) (g : Option (Nat × Bool)) : isX Try.prog H { dst := some d, op := .build 13 ps, type := ty, pos := pos, after := aft, guard := g } = !memN d H.arrs := by kernel_rfl
theorem fa13_0 (v : V) : vFieldAddr Try.prog 13 0 v = faddr 0 v := by kernel_rfl
theorem fg13_0 (s : St) (v : V) : vField Try.prog s 13 0 v = fget 0 1 false v := by kernel_rfl
theorem fa13_1 (v : V) : vFieldAddr Try.prog 13 1 v = faddr 1 v := by kernel_rfl
theorem fg13_1 (s : St) (v : V) : vField Try.prog s 13 1 v = fget 1 1 false v := by kernel_rfl
theorem sz14 : szOf Try.prog 14 = 2 := by kernel_rfl
theorem ag14 : isAgg Try.prog 14 = true := by kernel_rfl
theorem ze14 : zero Try.prog 14 = some [V.str ⟨#[]⟩, V.int .u64 0] := by kernel_rfl
theorem la14 : layOf Try.prog 14 = some [(9, 0, 1), (12, 1, 1)] := by kernel_rfl
theorem bd14 (H : Hint) (d : Nat) (ty : TypeId) (ps : Array (Nat × Operand)) (s : St) : evV Try.prog H d ty (.build 14 ps) s = aggO (buildL Try.prog [(9, 0, 1), (12, 1, 1)] s [V.str ⟨#[]⟩, V.int .u64 0] ps.toList) := build_lay la14 ze14
theorem xb14 (H : Hint) (d : Nat) (ty : TypeId) (ps : Array (Nat × Operand)) (pos : String) (aft : Array Edge) (g : Option (Nat × Bool)) : isX Try.prog H { dst := some d, op := .build 14 ps, type := ty, pos := pos, after := aft, guard := g } = !memN d H.arrs := by kernel_rfl
theorem fa14_0 (v : V) : vFieldAddr Try.prog 14 0 v = faddr 0 v := by kernel_rfl
theorem fg14_0 (s : St) (v : V) : vField Try.prog s 14 0 v = fget 0 1 false v := by kernel_rfl
theorem fa14_1 (v : V) : vFieldAddr Try.prog 14 1 v = faddr 1 v := by kernel_rfl
theorem fg14_1 (s : St) (v : V) : vField Try.prog s 14 1 v = fget 1 1 false v := by kernel_rfl
theorem u15 : Try.prog.underlying 15 = some (.pointer 246) := by kernel_rfl
theorem sz15 : szOf Try.prog 15 = 1 := by kernel_rfl
theorem ag15 : isAgg Try.prog 15 = false := by kernel_rfl
theorem ze15 : zero Try.prog 15 = some [V.nilp] := by kernel_rfl
theorem u16 : Try.prog.underlying 16 = some (.pointer 249) := by kernel_rfl
theorem sz16 : szOf Try.prog 16 = 1 := by kernel_rfl
theorem ag16 : isAgg Try.prog 16 = false := by kernel_rfl
theorem ze16 : zero Try.prog 16 = some [V.nilp] := by kernel_rfl
theorem u17 : Try.prog.underlying 17 = some (.pointer 259) := by kernel_rfl
theorem sz17 : szOf Try.prog 17 = 1 := by kernel_rfl
theorem ag17 : isAgg Try.prog 17 = false := by kernel_rfl
theorem ze17 : zero Try.prog 17 = some [V.nilp] := by kernel_rfl
theorem sz18 : szOf Try.prog 18 = 1 := by kernel_rfl
theorem ag18 : isAgg Try.prog 18 = true := by kernel_rfl
theorem ze18 : zero Try.prog 18 = some [V.nilp] := by kernel_rfl
theorem la18 : layOf Try.prog 18 = some [(17, 0, 1)] := by kernel_rfl
theorem bd18 (H : Hint) (d : Nat) (ty : TypeId) (ps : Array (Nat × Operand)) (s : St) : evV Try.prog H d ty (.build 18 ps) s = aggO (buildL Try.prog [(17, 0, 1)] s [V.nilp] ps.toList) := build_lay la18 ze18
theorem xb18 (H : Hint) (d : Nat) (ty : TypeId) (ps : Array (Nat × Operand)) (pos : String) (aft : Array Edge) (g : Option (Nat × Bool)) : isX Try.prog H { dst := some d, op := .build 18 ps, type := ty, pos := pos, after := aft, guard := g } = !memN d H.arrs := by kernel_rfl
theorem fa18_0 (v : V) : vFieldAddr Try.prog 18 0 v = faddr 0 v := by kernel_rfl
theorem fg18_0 (s : St) (v : V) : vField Try.prog s 18 0 v = fget 0 1 false v := by kernel_rfl
theorem sz19 : szOf Try.prog 19 = 1 := by kernel_rfl
theorem ag19 : isAgg Try.prog 19 = true := by kernel_rfl
theorem ze19 : zero Try.prog 19 = some [V.nilp] := by kernel_rfl
theorem la19 : layOf Try.prog 19 = some [(17, 0, 1)] := by kernel_rfl
theorem bd19 (H : Hint) (d : Nat) (ty : TypeId) (ps : Array (Nat × Operand)) (s : St) : evV Try.prog H d ty (.build 19 ps) s = aggO (buildL Try.prog [(17, 0, 1)] s [V.nilp] ps.toList) := build_lay la19 ze19
theorem xb19 (H : Hint) (d : Nat) (ty : TypeId) (ps : Array (Nat × Operand)) (pos : String) (aft : Array Edge) (g : Option (Nat × Bool)) : isX Try.prog H { dst := some d, op := .build 19 ps, type := ty, pos := pos, after := aft, guard := g } = !memN d H.arrs := by kernel_rfl
theorem fa19_0 (v : V) : vFieldAddr Try.prog 19 0 v = faddr 0 v := by kernel_rfl
theorem fg19_0 (s : St) (v : V) : vField Try.prog s 19 0 v = fget 0 1 false v := by kernel_rfl
theorem u21 : Try.prog.underlying 21 = some (.int .i32) := by kernel_rfl
theorem sz21 : szOf Try.prog 21 = 1 := by kernel_rfl
theorem ag21 : isAgg Try.prog 21 = false := by kernel_rfl
theorem ze21 : zero Try.prog 21 = some [V.int .i32 0] := by kernel_rfl
theorem u22 : Try.prog.underlying 22 = some (.slice 160) := by kernel_rfl
theorem sz22 : szOf Try.prog 22 = 1 := by kernel_rfl
theorem ag22 : isAgg Try.prog 22 = false := by kernel_rfl
theorem eo22 : elemOf Try.prog 22 = 160 := by kernel_rfl
theorem es22 : elemSz Try.prog 22 = 8 := by kernel_rfl
theorem gr22 : growB Try.prog 22 = true := by kernel_rfl
theorem df22 : dflt Try.prog 22 = V.agg [V.int .i64 0, V.str ⟨#[]⟩, V.str ⟨#[]⟩, V.str ⟨#[]⟩, V.str ⟨#[]⟩, V.int .i64 0, V.str ⟨#[]⟩, V.slc false 3 []] := by kernel_rfl
theorem ze22 : zero Try.prog 22 = some [V.slc true 8 []] := by kernel_rfl
theorem sz23 : szOf Try.prog 23 = 1 := by kernel_rfl
theorem ag23 : isAgg Try.prog 23 = true := by kernel_rfl
theorem ze23 : zero Try.prog 23 = some [V.slc true 8 []] := by kernel_rfl
theorem la23 : layOf Try.prog 23 = some [(22, 0, 1)] := by kernel_rfl
theorem bd23 (H : Hint) (d : Nat) (ty : TypeId) (ps : Array (Nat × Operand)) (s : St) : evV Try.prog H d ty (.build 23 ps) s = aggO (buildL Try.prog [(22, 0, 1)] s [V.slc true 8 []] ps.toList) := build_lay la23 ze23
theorem xb23 (H : Hint) (d : Nat) (ty : TypeId) (ps : Array (Nat × Operand)) (pos : String) (aft : Array Edge) (g : Option (Nat × Bool)) : isX Try.prog H { dst := some d, op := .build 23 ps, type := ty, pos := pos, after := aft, guard := g } = !memN d H.arrs := by kernel_rfl
theorem fa23_0 (v : V) : vFieldAddr Try.prog 23 0 v = faddr 0 v := by kernel_rfl
theorem fg23_0 (s : St) (v : V) : vField Try.prog s 23 0 v = fget 0 1 false v := by kernel_rfl
theorem sz24 : szOf Try.prog 24 = 1 := by kernel_rfl
theorem ag24 : isAgg Try.prog 24 = true := by kernel_rfl
theorem ze24 : zero Try.prog 24 = some [V.slc true 8 []] := by kernel_rfl
theorem la24 : layOf Try.prog 24 = some [(22, 0, 1)] := by kernel_rfl
theorem bd24 (H : Hint) (d : Nat) (ty : TypeId) (ps : Array (Nat × Operand)) (s : St) : evV Try.prog H d ty (.build 24 ps) s = aggO (buildL Try.prog [(22, 0, 1)] s [V.slc true 8 []] ps.toList) := build_lay la24 ze24
theorem xb24 (H : Hint) (d : Nat) (ty : TypeId) (ps : Array (Nat × Operand)) (pos : String) (aft : Array Edge) (g : Option (Nat × Bool)) : isX Try.prog H { dst := some d, op := .build 24 ps, type := ty, pos := pos, after := aft, guard := g } = !memN d H.arrs := by kernel_rfl
theorem fa24_0 (v : V) : vFieldAddr Try.prog 24 0 v = faddr 0 v := by kernel_rfl
theorem fg24_0 (s : St) (v : V) : vField Try.prog s 24 0 v = fget 0 1 false v := by kernel_rfl
theorem sz25 : szOf Try.prog 25 = 1 := by kernel_rfl
theorem ag25 : isAgg Try.prog 25 = false := by kernel_rfl
theorem ze25 : zero Try.prog 25 = some [V.nilfn] := by kernel_rfl
theorem sz26 : szOf Try.prog 26 = 1 := by kernel_rfl
theorem ag26 : isAgg Try.prog 26 = false := by kernel_rfl
theorem ze26 : zero Try.prog 26 = some [V.nilfn] := by kernel_rfl
theorem u27 : Try.prog.underlying 27 = some (.slice 101) := by kernel_rfl
theorem sz27 : szOf Try.prog 27 = 1 := by kernel_rfl
theorem ag27 : isAgg Try.prog 27 = false := by kernel_rfl
theorem eo27 : elemOf Try.prog 27 = 101 := by kernel_rfl
theorem es27 : elemSz Try.prog 27 = 8 := by kernel_rfl
theorem gr27 : growB Try.prog 27 = true := by kernel_rfl
theorem df27 : dflt Try.prog 27 = V.agg [V.int .i64 0, V.str ⟨#[]⟩, V.str ⟨#[]⟩, V.str ⟨#[]⟩, V.str ⟨#[]⟩, V.int .i64 0, V.str ⟨#[]⟩, V.slc false 3 []] := by kernel_rfl
theorem ze27 : zero Try.prog 27 = some [V.slc true 8 []] := by kernel_rfl
theorem sz28 : szOf Try.prog 28 = 1 := by kernel_rfl
theorem ag28 : isAgg Try.prog 28 = true := by kernel_rfl
theorem ze28 : zero Try.prog 28 = some [V.slc true 8 []] := by kernel_rfl
theorem la28 : layOf Try.prog 28 = some [(27, 0, 1)] := by kernel_rfl
theorem bd28 (H : Hint) (d : Nat) (ty : TypeId) (ps : Array (Nat × Operand)) (s : St) : evV Try.prog H d ty (.build 28 ps) s = aggO (buildL Try.prog [(27, 0, 1)] s [V.slc true 8 []] ps.toList) := build_lay la28 ze28
theorem xb28 (H : Hint) (d : Nat) (ty : TypeId) (ps : Array (Nat × Operand)) (pos : String) (aft : Array Edge) (g : Option (Nat × Bool)) : isX Try.prog H { dst := some d, op := .build 28 ps, type := ty, pos := pos, after := aft, guard := g } = !memN d H.arrs := by kernel_rfl
theorem fa28_0 (v : V) : vFieldAddr Try.prog 28 0 v = faddr 0 v := by kernel_rfl
theorem fg28_0 (s : St) (v : V) : vField Try.prog s 28 0 v = fget 0 1 false v := by kernel_rfl
theorem sz29 : szOf Try.prog 29 = 1 := by kernel_rfl
theorem ag29 : isAgg Try.prog 29 = true := by kernel_rfl
theorem ze29 : zero Try.prog 29 = some [V.slc true 8 []] := by kernel_rfl
theorem la29 : layOf Try.prog 29 = some [(27, 0, 1)] := by kernel_rfl
theorem bd29 (H : Hint) (d : Nat) (ty : TypeId) (ps : Array (Nat × Operand)) (s : St) : evV Try.prog H d ty (.build 29 ps) s = aggO (buildL Try.prog [(27, 0, 1)] s [V.slc true 8 []] ps.toList) := build_lay la29 ze29
theorem xb29 (H : Hint) (d : Nat) (ty : TypeId) (ps : Array (Nat × Operand)) (pos : String) (aft : Array Edge) (g : Option (Nat × Bool)) : isX Try.prog H { dst := some d, op := .build 29 ps, type := ty, pos := pos, after := aft, guard := g } = !memN d H.arrs := by kernel_rfl
theorem fa29_0 (v : V) : vFieldAddr Try.prog 29 0 v = faddr 0 v := by kernel_rfl
theorem fg29_0 (s : St) (v : V) : vField Try.prog s 29 0 v = fget 0 1 false v := by kernel_rfl
theorem sz30 : szOf Try.prog 30 = 1 := by kernel_rfl
theorem ag30 : isAgg Try.prog 30 = false := by kernel_rfl
theorem ze30 : zero Try.prog 30 = some [V.nilfn] := by kernel_rfl
theorem sz31 : szOf Try.prog 31 = 1 := by kernel_rfl
theorem ag31 : isAgg Try.prog 31 = false := by kernel_rfl
theorem ze31 : zero Try.prog 31 = some [V.nilfn] := by kernel_rfl
theorem sz32 : szOf Try.prog 32 = 1 := by kernel_rfl
theorem ag32 : isAgg Try.prog 32 = false := by kernel_rfl
theorem ze32 : zero Try.prog 32 = some [V.nilfn] := by kernel_rfl
theorem sz33 : szOf Try.prog 33 = 2 := by kernel_rfl
theorem ag33 : isAgg Try.prog 33 = true := by kernel_rfl
theorem ze33 : zero Try.prog 33 = some [V.str ⟨#[]⟩, V.str ⟨#[]⟩] := by kernel_rfl
theorem la33 : layOf Try.prog 33 = some [(9, 0, 1), (9, 1, 1)] := by kernel_rfl
theorem bd33 (H : Hint) (d : Nat) (ty : TypeId) (ps : Array (Nat × Operand)) (s : St) : evV Try.prog H d ty (.build 33 ps) s = aggO (buildL Try.prog [(9, 0, 1), (9, 1, 1)] s [V.str ⟨#[]⟩, V.str ⟨#[]⟩] ps.toList) := build_lay la33 ze33
theorem xb33 (H : Hint) (d : Nat) (ty : TypeId) (ps : Array (Nat × Operand)) (pos : String) (aft : Array Edge) (g : Option (Nat × Bool)) : isX Try.prog H { dst := some d, op := .build 33 ps, type := ty, pos := pos, after := aft, guard := g } = !memN d H.arrs := by kernel_rfl
theorem fa33_0 (v : V) : vFieldAddr Try.prog 33 0 v = faddr 0 v := by kernel_rfl
theorem fg33_0 (s : St) (v : V) : vField Try.prog s 33 0 v = fget 0 1 false v := by kernel_rfl
theorem fa33_1 (v : V) : vFieldAddr Try.prog 33 1 v = faddr 1 v := by kernel_rfl
theorem fg33_1 (s : St) (v : V) : vField Try.prog s 33 1 v = fget 1 1 false v := by kernel_rfl
theorem sz34 : szOf Try.prog 34 = 2 := by kernel_rfl
theorem ag34 : isAgg Try.prog 34 = true := by kernel_rfl
theorem ze34 : zero Try.prog 34 = some [V.str ⟨#[]⟩, V.str ⟨#[]⟩] := by kernel_rfl
theorem la34 : layOf Try.prog 34 = some [(9, 0, 1), (9, 1, 1)] := by kernel_rfl
theorem bd34 (H : Hint) (d : Nat) (ty : TypeId) (ps : Array (Nat × Operand)) (s : St) : evV Try.prog H d ty (.build 34 ps) s = aggO (buildL Try.prog [(9, 0, 1), (9, 1, 1)] s [V.str ⟨#[]⟩, V.str ⟨#[]⟩] ps.toList) := build_lay la34 ze34
theorem xb34 (H : Hint) (d : Nat) (ty : TypeId) (ps : Array (Nat × Operand)) (pos : String) (aft : Array Edge) (g : Option (Nat × Bool)) : isX Try.prog H { dst := some d, op := .build 34 ps, type := ty, pos := pos, after := aft, guard := g } = !memN d H.arrs := by kernel_rfl
theorem fa34_0 (v : V) : vFieldAddr Try.prog 34 0 v = faddr 0 v := by kernel_rfl
theorem fg34_0 (s : St) (v : V) : vField Try.prog s 34 0 v = fget 0 1 false v := by kernel_rfl
theorem fa34_1 (v : V) : vFieldAddr Try.prog 34 1 v = faddr 1 v := by kernel_rfl
theorem fg34_1 (s : St) (v : V) : vField Try.prog s 34 1 v = fget 1 1 false v := by kernel_rfl
theorem ev34 (x0 y0 : ByteArray) (x1 y1 : ByteArray) : eqV Try.prog 34 (.agg [V.str x0, V.str x1]) (.agg [V.str y0, V.str y1]) = some ((x0.toList == y0.toList) && ((x1.toList == y1.toList) && true)) := by kernel_rfl
theorem eg34 : Try.prog.eqGuardType Try.prog.depth 34 = false := by kernel_rfl
theorem u35 : Try.prog.underlying 35 = some (.slice 36) := by kernel_rfl
theorem sz35 : szOf Try.prog 35 = 1 := by kernel_rfl
theorem ag35 : isAgg Try.prog 35 = false := by kernel_rfl
theorem eo35 : elemOf Try.prog 35 = 36 := by kernel_rfl
theorem es35 : elemSz Try.prog 35 = 1 := by kernel_rfl
theorem gr35 : growB Try.prog 35 = true := by kernel_rfl
theorem df35 : dflt Try.prog 35 = V.slc false 1 [] := by kernel_rfl
theorem ze35 : zero Try.prog 35 = some [V.slc true 1 []] := by kernel_rfl
theorem u36 : Try.prog.underlying 36 = some (.slice 3) := by kernel_rfl
theorem sz36 : szOf Try.prog 36 = 1 := by kernel_rfl
theorem ag36 : isAgg Try.prog 36 = false := by kernel_rfl
theorem eo36 : elemOf Try.prog 36 = 3 := by kernel_rfl
theorem es36 : elemSz Try.prog 36 = 1 := by kernel_rfl
theorem gr36 : growB Try.prog 36 = true := by kernel_rfl
theorem df36 : dflt Try.prog 36 = V.int .i64 0 := by kernel_rfl
theorem ze36 : zero Try.prog 36 = some [V.slc true 1 []] := by kernel_rfl
theorem sz37 : szOf Try.prog 37 = 3 := by kernel_rfl
theorem ag37 : isAgg Try.prog 37 = true := by kernel_rfl
theorem ze37 : zero Try.prog 37 = some [V.slc true 1 [], V.slc true 1 [], V.slc true 1 []] := by kernel_rfl
theorem la37 : layOf Try.prog 37 = some [(35, 0, 1), (36, 1, 1), (35, 2, 1)] := by kernel_rfl
theorem bd37 (H : Hint) (d : Nat) (ty : TypeId) (ps : Array (Nat × Operand)) (s : St) : evV Try.prog H d ty (.build 37 ps) s = aggO (buildL Try.prog [(35, 0, 1), (36, 1, 1), (35, 2, 1)] s [V.slc true 1 [], V.slc true 1 [], V.slc true 1 []] ps.toList) := build_lay la37 ze37
theorem xb37 (H : Hint) (d : Nat) (ty : TypeId) (ps : Array (Nat × Operand)) (pos : String) (aft : Array Edge) (g : Option (Nat × Bool)) : isX Try.prog H { dst := some d, op := .build 37 ps, type := ty, pos := pos, after := aft, guard := g } = !memN d H.arrs := by kernel_rfl
theorem fa37_0 (v : V) : vFieldAddr Try.prog 37 0 v = faddr 0 v := by kernel_rfl
theorem fg37_0 (s : St) (v : V) : vField Try.prog s 37 0 v = fget 0 1 false v := by kernel_rfl
theorem fa37_1 (v : V) : vFieldAddr Try.prog 37 1 v = faddr 1 v := by kernel_rfl
theorem fg37_1 (s : St) (v : V) : vField Try.prog s 37 1 v = fget 1 1 false v := by kernel_rfl
theorem fa37_2 (v : V) : vFieldAddr Try.prog 37 2 v = faddr 2 v := by kernel_rfl
theorem fg37_2 (s : St) (v : V) : vField Try.prog s 37 2 v = fget 2 1 false v := by kernel_rfl
theorem sz38 : szOf Try.prog 38 = 3 := by kernel_rfl
theorem ag38 : isAgg Try.prog 38 = true := by kernel_rfl
theorem ze38 : zero Try.prog 38 = some [V.slc true 1 [], V.slc true 1 [], V.slc true 1 []] := by kernel_rfl
theorem la38 : layOf Try.prog 38 = some [(35, 0, 1), (36, 1, 1), (35, 2, 1)] := by kernel_rfl
theorem bd38 (H : Hint) (d : Nat) (ty : TypeId) (ps : Array (Nat × Operand)) (s : St) : evV Try.prog H d ty (.build 38 ps) s = aggO (buildL Try.prog [(35, 0, 1), (36, 1, 1), (35, 2, 1)] s [V.slc true 1 [], V.slc true 1 [], V.slc true 1 []] ps.toList) := build_lay la38 ze38
theorem xb38 (H : Hint) (d : Nat) (ty : TypeId) (ps : Array (Nat × Operand)) (pos : String) (aft : Array Edge) (g : Option (Nat × Bool)) : isX Try.prog H { dst := some d, op := .build 38 ps, type := ty, pos := pos, after := aft, guard := g } = !memN d H.arrs := by kernel_rfl
theorem fa38_0 (v : V) : vFieldAddr Try.prog 38 0 v = faddr 0 v := by kernel_rfl
theorem fg38_0 (s : St) (v : V) : vField Try.prog s 38 0 v = fget 0 1 false v := by kernel_rfl
theorem fa38_1 (v : V) : vFieldAddr Try.prog 38 1 v = faddr 1 v := by kernel_rfl
theorem fg38_1 (s : St) (v : V) : vField Try.prog s 38 1 v = fget 1 1 false v := by kernel_rfl
theorem fa38_2 (v : V) : vFieldAddr Try.prog 38 2 v = faddr 2 v := by kernel_rfl
theorem fg38_2 (s : St) (v : V) : vField Try.prog s 38 2 v = fget 2 1 false v := by kernel_rfl
theorem sz39 : szOf Try.prog 39 = 6 := by kernel_rfl
theorem ag39 : isAgg Try.prog 39 = true := by kernel_rfl
theorem ze39 : zero Try.prog 39 = some [V.str ⟨#[]⟩, V.str ⟨#[]⟩, V.slc true 1 [], V.slc true 1 [], V.slc true 1 [], V.slc true 1 []] := by kernel_rfl
theorem la39 : layOf Try.prog 39 = some [(34, 0, 2), (38, 2, 3), (35, 5, 1)] := by kernel_rfl
theorem bd39 (H : Hint) (d : Nat) (ty : TypeId) (ps : Array (Nat × Operand)) (s : St) : evV Try.prog H d ty (.build 39 ps) s = aggO (buildL Try.prog [(34, 0, 2), (38, 2, 3), (35, 5, 1)] s [V.str ⟨#[]⟩, V.str ⟨#[]⟩, V.slc true 1 [], V.slc true 1 [], V.slc true 1 [], V.slc true 1 []] ps.toList) := build_lay la39 ze39
theorem xb39 (H : Hint) (d : Nat) (ty : TypeId) (ps : Array (Nat × Operand)) (pos : String) (aft : Array Edge) (g : Option (Nat × Bool)) : isX Try.prog H { dst := some d, op := .build 39 ps, type := ty, pos := pos, after := aft, guard := g } = !memN d H.arrs := by kernel_rfl
theorem fa39_0 (v : V) : vFieldAddr Try.prog 39 0 v = faddr 0 v := by kernel_rfl
theorem fg39_0 (s : St) (v : V) : vField Try.prog s 39 0 v = fget 0 2 true v := by kernel_rfl
theorem fa39_1 (v : V) : vFieldAddr Try.prog 39 1 v = faddr 2 v := by kernel_rfl
theorem fg39_1 (s : St) (v : V) : vField Try.prog s 39 1 v = fget 2 3 true v := by kernel_rfl
theorem fa39_2 (v : V) : vFieldAddr Try.prog 39 2 v = faddr 5 v := by kernel_rfl
theorem fg39_2 (s : St) (v : V) : vField Try.prog s 39 2 v = fget 5 1 false v := by kernel_rfl
theorem sz40 : szOf Try.prog 40 = 6 := by kernel_rfl
theorem ag40 : isAgg Try.prog 40 = true := by kernel_rfl
theorem ze40 : zero Try.prog 40 = some [V.str ⟨#[]⟩, V.str ⟨#[]⟩, V.slc true 1 [], V.slc true 1 [], V.slc true 1 [], V.slc true 1 []] := by kernel_rfl
theorem la40 : layOf Try.prog 40 = some [(34, 0, 2), (38, 2, 3), (35, 5, 1)] := by kernel_rfl
theorem bd40 (H : Hint) (d : Nat) (ty : TypeId) (ps : Array (Nat × Operand)) (s : St) : evV Try.prog H d ty (.build 40 ps) s = aggO (buildL Try.prog [(34, 0, 2), (38, 2, 3), (35, 5, 1)] s [V.str ⟨#[]⟩, V.str ⟨#[]⟩, V.slc true 1 [], V.slc true 1 [], V.slc true 1 [], V.slc true 1 []] ps.toList) := build_lay la40 ze40
theorem xb40 (H : Hint) (d : Nat) (ty : TypeId) (ps : Array (Nat × Operand)) (pos : String) (aft : Array Edge) (g : Option (Nat × Bool)) : isX Try.prog H { dst := some d, op := .build 40 ps, type := ty, pos := pos, after := aft, guard := g } = !memN d H.arrs := by kernel_rfl
theorem fa40_0 (v : V) : vFieldAddr Try.prog 40 0 v = faddr 0 v := by kernel_rfl
theorem fg40_0 (s : St) (v : V) : vField Try.prog s 40 0 v = fget 0 2 true v := by kernel_rfl
theorem fa40_1 (v : V) : vFieldAddr Try.prog 40 1 v = faddr 2 v := by kernel_rfl
theorem fg40_1 (s : St) (v : V) : vField Try.prog s 40 1 v = fget 2 3 true v := by kernel_rfl
theorem fa40_2 (v : V) : vFieldAddr Try.prog 40 2 v = faddr 5 v := by kernel_rfl
theorem fg40_2 (s : St) (v : V) : vField Try.prog s 40 2 v = fget 5 1 false v := by kernel_rfl
theorem sz41 : szOf Try.prog 41 = 3 := by kernel_rfl
theorem ag41 : isAgg Try.prog 41 = true := by kernel_rfl
theorem ze41 : zero Try.prog 41 = some [V.str ⟨#[]⟩, V.str ⟨#[]⟩, V.slc true 1 []] := by kernel_rfl
theorem la41 : layOf Try.prog 41 = some [(9, 0, 1), (9, 1, 1), (36, 2, 1)] := by kernel_rfl
theorem bd41 (H : Hint) (d : Nat) (ty : TypeId) (ps : Array (Nat × Operand)) (s : St) : evV Try.prog H d ty (.build 41 ps) s = aggO (buildL Try.prog [(9, 0, 1), (9, 1, 1), (36, 2, 1)] s [V.str ⟨#[]⟩, V.str ⟨#[]⟩, V.slc true 1 []] ps.toList) := build_lay la41 ze41
theorem xb41 (H : Hint) (d : Nat) (ty : TypeId) (ps : Array (Nat × Operand)) (pos : String) (aft : Array Edge) (g : Option (Nat × Bool)) : isX Try.prog H { dst := some d, op := .build 41 ps, type := ty, pos := pos, after := aft, guard := g } = !memN d H.arrs := by kernel_rfl
theorem fa41_0 (v : V) : vFieldAddr Try.prog 41 0 v = faddr 0 v := by kernel_rfl
theorem fg41_0 (s : St) (v : V) : vField Try.prog s 41 0 v = fget 0 1 false v := by kernel_rfl
theorem fa41_1 (v : V) : vFieldAddr Try.prog 41 1 v = faddr 1 v := by kernel_rfl
theorem fg41_1 (s : St) (v : V) : vField Try.prog s 41 1 v = fget 1 1 false v := by kernel_rfl
theorem fa41_2 (v : V) : vFieldAddr Try.prog 41 2 v = faddr 2 v := by kernel_rfl
theorem fg41_2 (s : St) (v : V) : vField Try.prog s 41 2 v = fget 2 1 false v := by kernel_rfl
theorem sz42 : szOf Try.prog 42 = 3 := by kernel_rfl
theorem ag42 : isAgg Try.prog 42 = true := by kernel_rfl
theorem ze42 : zero Try.prog 42 = some [V.str ⟨#[]⟩, V.str ⟨#[]⟩, V.slc true 1 []] := by kernel_rfl
theorem la42 : layOf Try.prog 42 = some [(9, 0, 1), (9, 1, 1), (36, 2, 1)] := by kernel_rfl
theorem bd42 (H : Hint) (d : Nat) (ty : TypeId) (ps : Array (Nat × Operand)) (s : St) : evV Try.prog H d ty (.build 42 ps) s = aggO (buildL Try.prog [(9, 0, 1), (9, 1, 1), (36, 2, 1)] s [V.str ⟨#[]⟩, V.str ⟨#[]⟩, V.slc true 1 []] ps.toList) := build_lay la42 ze42
theorem xb42 (H : Hint) (d : Nat) (ty : TypeId) (ps : Array (Nat × Operand)) (pos : String) (aft : Array Edge) (g : Option (Nat × Bool)) : isX Try.prog H { dst := some d, op := .build 42 ps, type := ty, pos := pos, after := aft, guard := g } = !memN d H.arrs := by kernel_rfl
theorem fa42_0 (v : V) : vFieldAddr Try.prog 42 0 v = faddr 0 v := by kernel_rfl
theorem fg42_0 (s : St) (v : V) : vField Try.prog s 42 0 v = fget 0 1 false v := by kernel_rfl
theorem fa42_1 (v : V) : vFieldAddr Try.prog 42 1 v = faddr 1 v := by kernel_rfl
theorem fg42_1 (s : St) (v : V) : vField Try.prog s 42 1 v = fget 1 1 false v := by kernel_rfl
theorem fa42_2 (v : V) : vFieldAddr Try.prog 42 2 v = faddr 2 v := by kernel_rfl
theorem fg42_2 (s : St) (v : V) : vField Try.prog s 42 2 v = fget 2 1 false v := by kernel_rfl
theorem sz43 : szOf Try.prog 43 = 1 := by kernel_rfl
theorem ag43 : isAgg Try.prog 43 = false := by kernel_rfl
theorem ze43 : zero Try.prog 43 = some [V.nilfn] := by kernel_rfl
theorem sz44 : szOf Try.prog 44 = 1 := by kernel_rfl
theorem ag44 : isAgg Try.prog 44 = false := by kernel_rfl
theorem ze44 : zero Try.prog 44 = some [V.nilfn] := by kernel_rfl
theorem u45 : Try.prog.underlying 45 = some (.slice 116) := by kernel_rfl
theorem sz45 : szOf Try.prog 45 = 1 := by kernel_rfl
theorem ag45 : isAgg Try.prog 45 = false := by kernel_rfl
theorem eo45 : elemOf Try.prog 45 = 116 := by kernel_rfl
theorem es45 : elemSz Try.prog 45 = 5 := by kernel_rfl
theorem gr45 : growB Try.prog 45 = true := by kernel_rfl
theorem df45 : dflt Try.prog 45 = V.agg [V.int .u8 0, V.str ⟨#[]⟩, V.str ⟨#[]⟩, V.str ⟨#[]⟩, V.slc false 1 []] := by kernel_rfl
theorem ze45 : zero Try.prog 45 = some [V.slc true 5 []] := by kernel_rfl
theorem sz46 : szOf Try.prog 46 = 1 := by kernel_rfl
theorem ag46 : isAgg Try.prog 46 = false := by kernel_rfl
theorem ze46 : zero Try.prog 46 = some [V.nilfn] := by kernel_rfl
theorem sz47 : szOf Try.prog 47 = 2 := by kernel_rfl
theorem ag47 : isAgg Try.prog 47 = true := by kernel_rfl
theorem ze47 : zero Try.prog 47 = some [V.str ⟨#[]⟩, V.str ⟨#[]⟩] := by kernel_rfl
theorem la47 : layOf Try.prog 47 = some [(9, 0, 1), (9, 1, 1)] := by kernel_rfl
theorem bd47 (H : Hint) (d : Nat) (ty : TypeId) (ps : Array (Nat × Operand)) (s : St) : evV Try.prog H d ty (.build 47 ps) s = aggO (buildL Try.prog [(9, 0, 1), (9, 1, 1)] s [V.str ⟨#[]⟩, V.str ⟨#[]⟩] ps.toList) := build_lay la47 ze47
theorem xb47 (H : Hint) (d : Nat) (ty : TypeId) (ps : Array (Nat × Operand)) (pos : String) (aft : Array Edge) (g : Option (Nat × Bool)) : isX Try.prog H { dst := some d, op := .build 47 ps, type := ty, pos := pos, after := aft, guard := g } = !memN d H.arrs := by kernel_rfl
theorem fa47_0 (v : V) : vFieldAddr Try.prog 47 0 v = faddr 0 v := by kernel_rfl
theorem fg47_0 (s : St) (v : V) : vField Try.prog s 47 0 v = fget 0 1 false v := by kernel_rfl
theorem fa47_1 (v : V) : vFieldAddr Try.prog 47 1 v = faddr 1 v := by kernel_rfl
theorem fg47_1 (s : St) (v : V) : vField Try.prog s 47 1 v = fget 1 1 false v := by kernel_rfl
theorem ev47 (x0 y0 : ByteArray) (x1 y1 : ByteArray) : eqV Try.prog 47 (.agg [V.str x0, V.str x1]) (.agg [V.str y0, V.str y1]) = some ((x0.toList == y0.toList) && ((x1.toList == y1.toList) && true)) := by kernel_rfl
theorem eg47 : Try.prog.eqGuardType Try.prog.depth 47 = false := by kernel_rfl
theorem sz48 : szOf Try.prog 48 = 3 := by kernel_rfl
theorem ag48 : isAgg Try.prog 48 = true := by kernel_rfl
theorem ze48 : zero Try.prog 48 = some [V.slc true 1 [], V.slc true 1 [], V.slc true 1 []] := by kernel_rfl
theorem la48 : layOf Try.prog 48 = some [(35, 0, 1), (36, 1, 1), (35, 2, 1)] := by kernel_rfl
theorem bd48 (H : Hint) (d : Nat) (ty : TypeId) (ps : Array (Nat × Operand)) (s : St) : evV Try.prog H d ty (.build 48 ps) s = aggO (buildL Try.prog [(35, 0, 1), (36, 1, 1), (35, 2, 1)] s [V.slc true 1 [], V.slc true 1 [], V.slc true 1 []] ps.toList) := build_lay la48 ze48
theorem xb48 (H : Hint) (d : Nat) (ty : TypeId) (ps : Array (Nat × Operand)) (pos : String) (aft : Array Edge) (g : Option (Nat × Bool)) : isX Try.prog H { dst := some d, op := .build 48 ps, type := ty, pos := pos, after := aft, guard := g } = !memN d H.arrs := by kernel_rfl
theorem fa48_0 (v : V) : vFieldAddr Try.prog 48 0 v = faddr 0 v := by kernel_rfl
theorem fg48_0 (s : St) (v : V) : vField Try.prog s 48 0 v = fget 0 1 false v := by kernel_rfl
theorem fa48_1 (v : V) : vFieldAddr Try.prog 48 1 v = faddr 1 v := by kernel_rfl
theorem fg48_1 (s : St) (v : V) : vField Try.prog s 48 1 v = fget 1 1 false v := by kernel_rfl
theorem fa48_2 (v : V) : vFieldAddr Try.prog 48 2 v = faddr 2 v := by kernel_rfl
theorem fg48_2 (s : St) (v : V) : vField Try.prog s 48 2 v = fget 2 1 false v := by kernel_rfl
theorem sz49 : szOf Try.prog 49 = 6 := by kernel_rfl
theorem ag49 : isAgg Try.prog 49 = true := by kernel_rfl
theorem ze49 : zero Try.prog 49 = some [V.str ⟨#[]⟩, V.str ⟨#[]⟩, V.slc true 1 [], V.slc true 1 [], V.slc true 1 [], V.slc true 1 []] := by kernel_rfl
theorem la49 : layOf Try.prog 49 = some [(47, 0, 2), (48, 2, 3), (35, 5, 1)] := by kernel_rfl
theorem bd49 (H : Hint) (d : Nat) (ty : TypeId) (ps : Array (Nat × Operand)) (s : St) : evV Try.prog H d ty (.build 49 ps) s = aggO (buildL Try.prog [(47, 0, 2), (48, 2, 3), (35, 5, 1)] s [V.str ⟨#[]⟩, V.str ⟨#[]⟩, V.slc true 1 [], V.slc true 1 [], V.slc true 1 [], V.slc true 1 []] ps.toList) := build_lay la49 ze49
theorem xb49 (H : Hint) (d : Nat) (ty : TypeId) (ps : Array (Nat × Operand)) (pos : String) (aft : Array Edge) (g : Option (Nat × Bool)) : isX Try.prog H { dst := some d, op := .build 49 ps, type := ty, pos := pos, after := aft, guard := g } = !memN d H.arrs := by kernel_rfl
theorem fa49_0 (v : V) : vFieldAddr Try.prog 49 0 v = faddr 0 v := by kernel_rfl
theorem fg49_0 (s : St) (v : V) : vField Try.prog s 49 0 v = fget 0 2 true v := by kernel_rfl
theorem fa49_1 (v : V) : vFieldAddr Try.prog 49 1 v = faddr 2 v := by kernel_rfl
theorem fg49_1 (s : St) (v : V) : vField Try.prog s 49 1 v = fget 2 3 true v := by kernel_rfl
theorem fa49_2 (v : V) : vFieldAddr Try.prog 49 2 v = faddr 5 v := by kernel_rfl
theorem fg49_2 (s : St) (v : V) : vField Try.prog s 49 2 v = fget 5 1 false v := by kernel_rfl
theorem sz50 : szOf Try.prog 50 = 6 := by kernel_rfl
theorem ag50 : isAgg Try.prog 50 = true := by kernel_rfl
theorem ze50 : zero Try.prog 50 = some [V.str ⟨#[]⟩, V.str ⟨#[]⟩, V.slc true 1 [], V.slc true 1 [], V.slc true 1 [], V.slc true 1 []] := by kernel_rfl
theorem la50 : layOf Try.prog 50 = some [(47, 0, 2), (48, 2, 3), (35, 5, 1)] := by kernel_rfl
theorem bd50 (H : Hint) (d : Nat) (ty : TypeId) (ps : Array (Nat × Operand)) (s : St) : evV Try.prog H d ty (.build 50 ps) s = aggO (buildL Try.prog [(47, 0, 2), (48, 2, 3), (35, 5, 1)] s [V.str ⟨#[]⟩, V.str ⟨#[]⟩, V.slc true 1 [], V.slc true 1 [], V.slc true 1 [], V.slc true 1 []] ps.toList) := build_lay la50 ze50
theorem xb50 (H : Hint) (d : Nat) (ty : TypeId) (ps : Array (Nat × Operand)) (pos : String) (aft : Array Edge) (g : Option (Nat × Bool)) : isX Try.prog H { dst := some d, op := .build 50 ps, type := ty, pos := pos, after := aft, guard := g } = !memN d H.arrs := by kernel_rfl
theorem fa50_0 (v : V) : vFieldAddr Try.prog 50 0 v = faddr 0 v := by kernel_rfl
theorem fg50_0 (s : St) (v : V) : vField Try.prog s 50 0 v = fget 0 2 true v := by kernel_rfl
theorem fa50_1 (v : V) : vFieldAddr Try.prog 50 1 v = faddr 2 v := by kernel_rfl
theorem fg50_1 (s : St) (v : V) : vField Try.prog s 50 1 v = fget 2 3 true v := by kernel_rfl
theorem fa50_2 (v : V) : vFieldAddr Try.prog 50 2 v = faddr 5 v := by kernel_rfl
theorem fg50_2 (s : St) (v : V) : vField Try.prog s 50 2 v = fget 5 1 false v := by kernel_rfl
theorem sz51 : szOf Try.prog 51 = 1 := by kernel_rfl
theorem ag51 : isAgg Try.prog 51 = false := by kernel_rfl
theorem ze51 : zero Try.prog 51 = some [V.nilfn] := by kernel_rfl
theorem sz52 : szOf Try.prog 52 = 3 := by kernel_rfl
theorem ag52 : isAgg Try.prog 52 = true := by kernel_rfl
theorem ze52 : zero Try.prog 52 = some [V.str ⟨#[]⟩, V.str ⟨#[]⟩, V.slc true 1 []] := by kernel_rfl
theorem la52 : layOf Try.prog 52 = some [(9, 0, 1), (9, 1, 1), (36, 2, 1)] := by kernel_rfl
theorem bd52 (H : Hint) (d : Nat) (ty : TypeId) (ps : Array (Nat × Operand)) (s : St) : evV Try.prog H d ty (.build 52 ps) s = aggO (buildL Try.prog [(9, 0, 1), (9, 1, 1), (36, 2, 1)] s [V.str ⟨#[]⟩, V.str ⟨#[]⟩, V.slc true 1 []] ps.toList) := build_lay la52 ze52
theorem xb52 (H : Hint) (d : Nat) (ty : TypeId) (ps : Array (Nat × Operand)) (pos : String) (aft : Array Edge) (g : Option (Nat × Bool)) : isX Try.prog H { dst := some d, op := .build 52 ps, type := ty, pos := pos, after := aft, guard := g } = !memN d H.arrs := by kernel_rfl
theorem fa52_0 (v : V) : vFieldAddr Try.prog 52 0 v = faddr 0 v := by kernel_rfl
theorem fg52_0 (s : St) (v : V) : vField Try.prog s 52 0 v = fget 0 1 false v := by kernel_rfl
theorem fa52_1 (v : V) : vFieldAddr Try.prog 52 1 v = faddr 1 v := by kernel_rfl
theorem fg52_1 (s : St) (v : V) : vField Try.prog s 52 1 v = fget 1 1 false v := by kernel_rfl
theorem fa52_2 (v : V) : vFieldAddr Try.prog 52 2 v = faddr 2 v := by kernel_rfl
theorem fg52_2 (s : St) (v : V) : vField Try.prog s 52 2 v = fget 2 1 false v := by kernel_rfl
theorem sz53 : szOf Try.prog 53 = 1 := by kernel_rfl
theorem ag53 : isAgg Try.prog 53 = false := by kernel_rfl
theorem ze53 : zero Try.prog 53 = some [V.nilfn] := by kernel_rfl
theorem sz54 : szOf Try.prog 54 = 1 := by kernel_rfl
theorem ag54 : isAgg Try.prog 54 = false := by kernel_rfl
theorem ze54 : zero Try.prog 54 = some [V.nilfn] := by kernel_rfl
theorem sz55 : szOf Try.prog 55 = 1 := by kernel_rfl
theorem ag55 : isAgg Try.prog 55 = false := by kernel_rfl
theorem ze55 : zero Try.prog 55 = some [V.nilfn] := by kernel_rfl
theorem sz56 : szOf Try.prog 56 = 1 := by kernel_rfl
theorem ag56 : isAgg Try.prog 56 = false := by kernel_rfl
theorem ze56 : zero Try.prog 56 = some [V.nilfn] := by kernel_rfl
theorem sz57 : szOf Try.prog 57 = 1 := by kernel_rfl
theorem ag57 : isAgg Try.prog 57 = false := by kernel_rfl
theorem ze57 : zero Try.prog 57 = some [V.nilfn] := by kernel_rfl
theorem sz58 : szOf Try.prog 58 = 1 := by kernel_rfl
theorem ag58 : isAgg Try.prog 58 = false := by kernel_rfl
theorem ze58 : zero Try.prog 58 = some [V.nilfn] := by kernel_rfl
theorem sz59 : szOf Try.prog 59 = 1 := by kernel_rfl
theorem ag59 : isAgg Try.prog 59 = false := by kernel_rfl
theorem ze59 : zero Try.prog 59 = some [V.nilfn] := by kernel_rfl
theorem sz60 : szOf Try.prog 60 = 1 := by kernel_rfl
theorem ag60 : isAgg Try.prog 60 = false := by kernel_rfl
theorem ze60 : zero Try.prog 60 = some [V.nilfn] := by kernel_rfl
theorem u61 : Try.prog.underlying 61 = some (.slice 181) := by kernel_rfl
theorem sz61 : szOf Try.prog 61 = 1 := by kernel_rfl
theorem ag61 : isAgg Try.prog 61 = false := by kernel_rfl
theorem eo61 : elemOf Try.prog 61 = 181 := by kernel_rfl
theorem es61 : elemSz Try.prog 61 = 8 := by kernel_rfl
theorem gr61 : growB Try.prog 61 = true := by kernel_rfl
theorem df61 : dflt Try.prog 61 = V.agg [V.int .i64 0, V.str ⟨#[]⟩, V.str ⟨#[]⟩, V.int .i64 0, V.str ⟨#[]⟩, V.slc false 3 [], V.slc false 1 [], V.int .i64 0] := by kernel_rfl
theorem ze61 : zero Try.prog 61 = some [V.slc true 8 []] := by kernel_rfl
theorem sz62 : szOf Try.prog 62 = 1 := by kernel_rfl
theorem ag62 : isAgg Try.prog 62 = true := by kernel_rfl
theorem ze62 : zero Try.prog 62 = some [V.slc true 8 []] := by kernel_rfl
theorem la62 : layOf Try.prog 62 = some [(61, 0, 1)] := by kernel_rfl
theorem bd62 (H : Hint) (d : Nat) (ty : TypeId) (ps : Array (Nat × Operand)) (s : St) : evV Try.prog H d ty (.build 62 ps) s = aggO (buildL Try.prog [(61, 0, 1)] s [V.slc true 8 []] ps.toList) := build_lay la62 ze62
theorem xb62 (H : Hint) (d : Nat) (ty : TypeId) (ps : Array (Nat × Operand)) (pos : String) (aft : Array Edge) (g : Option (Nat × Bool)) : isX Try.prog H { dst := some d, op := .build 62 ps, type := ty, pos := pos, after := aft, guard := g } = !memN d H.arrs := by kernel_rfl
theorem fa62_0 (v : V) : vFieldAddr Try.prog 62 0 v = faddr 0 v := by kernel_rfl
theorem fg62_0 (s : St) (v : V) : vField Try.prog s 62 0 v = fget 0 1 false v := by kernel_rfl
theorem sz63 : szOf Try.prog 63 = 1 := by kernel_rfl
theorem ag63 : isAgg Try.prog 63 = true := by kernel_rfl
theorem ze63 : zero Try.prog 63 = some [V.slc true 8 []] := by kernel_rfl
theorem la63 : layOf Try.prog 63 = some [(61, 0, 1)] := by kernel_rfl
theorem bd63 (H : Hint) (d : Nat) (ty : TypeId) (ps : Array (Nat × Operand)) (s : St) : evV Try.prog H d ty (.build 63 ps) s = aggO (buildL Try.prog [(61, 0, 1)] s [V.slc true 8 []] ps.toList) := build_lay la63 ze63
theorem xb63 (H : Hint) (d : Nat) (ty : TypeId) (ps : Array (Nat × Operand)) (pos : String) (aft : Array Edge) (g : Option (Nat × Bool)) : isX Try.prog H { dst := some d, op := .build 63 ps, type := ty, pos := pos, after := aft, guard := g } = !memN d H.arrs := by kernel_rfl
theorem fa63_0 (v : V) : vFieldAddr Try.prog 63 0 v = faddr 0 v := by kernel_rfl
theorem fg63_0 (s : St) (v : V) : vField Try.prog s 63 0 v = fget 0 1 false v := by kernel_rfl
theorem sz64 : szOf Try.prog 64 = 1 := by kernel_rfl
theorem ag64 : isAgg Try.prog 64 = false := by kernel_rfl
theorem ze64 : zero Try.prog 64 = some [V.nilfn] := by kernel_rfl
theorem u65 : Try.prog.underlying 65 = some (.slice 138) := by kernel_rfl
theorem sz65 : szOf Try.prog 65 = 1 := by kernel_rfl
theorem ag65 : isAgg Try.prog 65 = false := by kernel_rfl
theorem eo65 : elemOf Try.prog 65 = 138 := by kernel_rfl
theorem es65 : elemSz Try.prog 65 = 8 := by kernel_rfl
theorem gr65 : growB Try.prog 65 = true := by kernel_rfl
theorem df65 : dflt Try.prog 65 = V.agg [V.int .i64 0, V.str ⟨#[]⟩, V.str ⟨#[]⟩, V.int .i64 0, V.str ⟨#[]⟩, V.slc false 3 [], V.slc false 1 [], V.int .i64 0] := by kernel_rfl
theorem ze65 : zero Try.prog 65 = some [V.slc true 8 []] := by kernel_rfl
theorem sz66 : szOf Try.prog 66 = 1 := by kernel_rfl
theorem ag66 : isAgg Try.prog 66 = true := by kernel_rfl
theorem ze66 : zero Try.prog 66 = some [V.slc true 8 []] := by kernel_rfl
theorem la66 : layOf Try.prog 66 = some [(65, 0, 1)] := by kernel_rfl
theorem bd66 (H : Hint) (d : Nat) (ty : TypeId) (ps : Array (Nat × Operand)) (s : St) : evV Try.prog H d ty (.build 66 ps) s = aggO (buildL Try.prog [(65, 0, 1)] s [V.slc true 8 []] ps.toList) := build_lay la66 ze66
theorem xb66 (H : Hint) (d : Nat) (ty : TypeId) (ps : Array (Nat × Operand)) (pos : String) (aft : Array Edge) (g : Option (Nat × Bool)) : isX Try.prog H { dst := some d, op := .build 66 ps, type := ty, pos := pos, after := aft, guard := g } = !memN d H.arrs := by kernel_rfl
theorem fa66_0 (v : V) : vFieldAddr Try.prog 66 0 v = faddr 0 v := by kernel_rfl
theorem fg66_0 (s : St) (v : V) : vField Try.prog s 66 0 v = fget 0 1 false v := by kernel_rfl
theorem sz67 : szOf Try.prog 67 = 1 := by kernel_rfl
theorem ag67 : isAgg Try.prog 67 = true := by kernel_rfl
theorem ze67 : zero Try.prog 67 = some [V.slc true 8 []] := by kernel_rfl
theorem la67 : layOf Try.prog 67 = some [(65, 0, 1)] := by kernel_rfl
theorem bd67 (H : Hint) (d : Nat) (ty : TypeId) (ps : Array (Nat × Operand)) (s : St) : evV Try.prog H d ty (.build 67 ps) s = aggO (buildL Try.prog [(65, 0, 1)] s [V.slc true 8 []] ps.toList) := build_lay la67 ze67
theorem xb67 (H : Hint) (d : Nat) (ty : TypeId) (ps : Array (Nat × Operand)) (pos : String) (aft : Array Edge) (g : Option (Nat × Bool)) : isX Try.prog H { dst := some d, op := .build 67 ps, type := ty, pos := pos, after := aft, guard := g } = !memN d H.arrs := by kernel_rfl
theorem fa67_0 (v : V) : vFieldAddr Try.prog 67 0 v = faddr 0 v := by kernel_rfl
theorem fg67_0 (s : St) (v : V) : vField Try.prog s 67 0 v = fget 0 1 false v := by kernel_rfl
theorem sz69 : szOf Try.prog 69 = 1 := by kernel_rfl
theorem ag69 : isAgg Try.prog 69 = false := by kernel_rfl
theorem ze69 : zero Try.prog 69 = some [V.nilfn] := by kernel_rfl
theorem sz70 : szOf Try.prog 70 = 1 := by kernel_rfl
theorem ag70 : isAgg Try.prog 70 = false := by kernel_rfl
theorem ze70 : zero Try.prog 70 = some [V.nilfn] := by kernel_rfl
theorem sz71 : szOf Try.prog 71 = 1 := by kernel_rfl
theorem ag71 : isAgg Try.prog 71 = false := by kernel_rfl
theorem ze71 : zero Try.prog 71 = some [V.nilfn] := by kernel_rfl
theorem sz72 : szOf Try.prog 72 = 1 := by kernel_rfl
theorem ag72 : isAgg Try.prog 72 = false := by kernel_rfl
theorem ze72 : zero Try.prog 72 = some [V.nilfn] := by kernel_rfl
theorem sz73 : szOf Try.prog 73 = 1 := by kernel_rfl
theorem ag73 : isAgg Try.prog 73 = false := by kernel_rfl
theorem ze73 : zero Try.prog 73 = some [V.nilfn] := by kernel_rfl
theorem sz74 : szOf Try.prog 74 = 1 := by kernel_rfl
theorem ag74 : isAgg Try.prog 74 = false := by kernel_rfl
theorem ze74 : zero Try.prog 74 = some [V.nilfn] := by kernel_rfl
theorem sz75 : szOf Try.prog 75 = 1 := by kernel_rfl
theorem ag75 : isAgg Try.prog 75 = false := by kernel_rfl
theorem ze75 : zero Try.prog 75 = some [V.nilfn] := by kernel_rfl
theorem sz76 : szOf Try.prog 76 = 1 := by kernel_rfl
theorem ag76 : isAgg Try.prog 76 = false := by kernel_rfl
theorem ze76 : zero Try.prog 76 = some [V.nilfn] := by kernel_rfl
theorem u77 : Try.prog.underlying 77 = some (.slice 4) := by kernel_rfl
theorem sz77 : szOf Try.prog 77 = 1 := by kernel_rfl
theorem ag77 : isAgg Try.prog 77 = false := by kernel_rfl
theorem eo77 : elemOf Try.prog 77 = 4 := by kernel_rfl
theorem es77 : elemSz Try.prog 77 = 1 := by kernel_rfl
theorem gr77 : growB Try.prog 77 = true := by kernel_rfl
theorem df77 : dflt Try.prog 77 = V.bool false := by kernel_rfl
theorem ze77 : zero Try.prog 77 = some [V.slc true 1 []] := by kernel_rfl
theorem sz78 : szOf Try.prog 78 = 2 := by kernel_rfl
theorem ag78 : isAgg Try.prog 78 = true := by kernel_rfl
theorem ze78 : zero Try.prog 78 = some [V.slc true 1 [], V.slc true 1 []] := by kernel_rfl
theorem la78 : layOf Try.prog 78 = some [(77, 0, 1), (35, 1, 1)] := by kernel_rfl
theorem bd78 (H : Hint) (d : Nat) (ty : TypeId) (ps : Array (Nat × Operand)) (s : St) : evV Try.prog H d ty (.build 78 ps) s = aggO (buildL Try.prog [(77, 0, 1), (35, 1, 1)] s [V.slc true 1 [], V.slc true 1 []] ps.toList) := build_lay la78 ze78
theorem xb78 (H : Hint) (d : Nat) (ty : TypeId) (ps : Array (Nat × Operand)) (pos : String) (aft : Array Edge) (g : Option (Nat × Bool)) : isX Try.prog H { dst := some d, op := .build 78 ps, type := ty, pos := pos, after := aft, guard := g } = !memN d H.arrs := by kernel_rfl
theorem fa78_0 (v : V) : vFieldAddr Try.prog 78 0 v = faddr 0 v := by kernel_rfl
theorem fg78_0 (s : St) (v : V) : vField Try.prog s 78 0 v = fget 0 1 false v := by kernel_rfl
theorem fa78_1 (v : V) : vFieldAddr Try.prog 78 1 v = faddr 1 v := by kernel_rfl
theorem fg78_1 (s : St) (v : V) : vField Try.prog s 78 1 v = fget 1 1 false v := by kernel_rfl
theorem sz79 : szOf Try.prog 79 = 2 := by kernel_rfl
theorem ag79 : isAgg Try.prog 79 = true := by kernel_rfl
theorem ze79 : zero Try.prog 79 = some [V.slc true 1 [], V.slc true 1 []] := by kernel_rfl
theorem la79 : layOf Try.prog 79 = some [(77, 0, 1), (35, 1, 1)] := by kernel_rfl
theorem bd79 (H : Hint) (d : Nat) (ty : TypeId) (ps : Array (Nat × Operand)) (s : St) : evV Try.prog H d ty (.build 79 ps) s = aggO (buildL Try.prog [(77, 0, 1), (35, 1, 1)] s [V.slc true 1 [], V.slc true 1 []] ps.toList) := build_lay la79 ze79
theorem xb79 (H : Hint) (d : Nat) (ty : TypeId) (ps : Array (Nat × Operand)) (pos : String) (aft : Array Edge) (g : Option (Nat × Bool)) : isX Try.prog H { dst := some d, op := .build 79 ps, type := ty, pos := pos, after := aft, guard := g } = !memN d H.arrs := by kernel_rfl
theorem fa79_0 (v : V) : vFieldAddr Try.prog 79 0 v = faddr 0 v := by kernel_rfl
theorem fg79_0 (s : St) (v : V) : vField Try.prog s 79 0 v = fget 0 1 false v := by kernel_rfl
theorem fa79_1 (v : V) : vFieldAddr Try.prog 79 1 v = faddr 1 v := by kernel_rfl
theorem fg79_1 (s : St) (v : V) : vField Try.prog s 79 1 v = fget 1 1 false v := by kernel_rfl
theorem sz80 : szOf Try.prog 80 = 1 := by kernel_rfl
theorem ag80 : isAgg Try.prog 80 = false := by kernel_rfl
theorem ze80 : zero Try.prog 80 = some [V.nilfn] := by kernel_rfl
theorem sz81 : szOf Try.prog 81 = 2 := by kernel_rfl
theorem ag81 : isAgg Try.prog 81 = true := by kernel_rfl
theorem ze81 : zero Try.prog 81 = some [V.slc true 1 [], V.slc true 1 []] := by kernel_rfl
theorem la81 : layOf Try.prog 81 = some [(77, 0, 1), (35, 1, 1)] := by kernel_rfl
theorem bd81 (H : Hint) (d : Nat) (ty : TypeId) (ps : Array (Nat × Operand)) (s : St) : evV Try.prog H d ty (.build 81 ps) s = aggO (buildL Try.prog [(77, 0, 1), (35, 1, 1)] s [V.slc true 1 [], V.slc true 1 []] ps.toList) := build_lay la81 ze81
theorem xb81 (H : Hint) (d : Nat) (ty : TypeId) (ps : Array (Nat × Operand)) (pos : String) (aft : Array Edge) (g : Option (Nat × Bool)) : isX Try.prog H { dst := some d, op := .build 81 ps, type := ty, pos := pos, after := aft, guard := g } = !memN d H.arrs := by kernel_rfl
theorem fa81_0 (v : V) : vFieldAddr Try.prog 81 0 v = faddr 0 v := by kernel_rfl
theorem fg81_0 (s : St) (v : V) : vField Try.prog s 81 0 v = fget 0 1 false v := by kernel_rfl
theorem fa81_1 (v : V) : vFieldAddr Try.prog 81 1 v = faddr 1 v := by kernel_rfl
theorem fg81_1 (s : St) (v : V) : vField Try.prog s 81 1 v = fget 1 1 false v := by kernel_rfl
theorem sz83 : szOf Try.prog 83 = 1 := by kernel_rfl
theorem ag83 : isAgg Try.prog 83 = false := by kernel_rfl
theorem ze83 : zero Try.prog 83 = some [V.nilfn] := by kernel_rfl
theorem sz84 : szOf Try.prog 84 = 1 := by kernel_rfl
theorem ag84 : isAgg Try.prog 84 = false := by kernel_rfl
theorem ze84 : zero Try.prog 84 = some [V.nilfn] := by kernel_rfl
theorem sz85 : szOf Try.prog 85 = 1 := by kernel_rfl
theorem ag85 : isAgg Try.prog 85 = false := by kernel_rfl
theorem ze85 : zero Try.prog 85 = some [V.nilfn] := by kernel_rfl
theorem sz86 : szOf Try.prog 86 = 1 := by kernel_rfl
theorem ag86 : isAgg Try.prog 86 = false := by kernel_rfl
theorem ze86 : zero Try.prog 86 = some [V.nilfn] := by kernel_rfl
theorem sz87 : szOf Try.prog 87 = 1 := by kernel_rfl
theorem ag87 : isAgg Try.prog 87 = false := by kernel_rfl
theorem ze87 : zero Try.prog 87 = some [V.nilfn] := by kernel_rfl
theorem sz88 : szOf Try.prog 88 = 3 := by kernel_rfl
theorem ag88 : isAgg Try.prog 88 = true := by kernel_rfl
theorem ze88 : zero Try.prog 88 = some [V.str ⟨#[]⟩, V.str ⟨#[]⟩, V.str ⟨#[]⟩] := by kernel_rfl
theorem la88 : layOf Try.prog 88 = some [(9, 0, 1), (9, 1, 1), (9, 2, 1)] := by kernel_rfl
theorem bd88 (H : Hint) (d : Nat) (ty : TypeId) (ps : Array (Nat × Operand)) (s : St) : evV Try.prog H d ty (.build 88 ps) s = aggO (buildL Try.prog [(9, 0, 1), (9, 1, 1), (9, 2, 1)] s [V.str ⟨#[]⟩, V.str ⟨#[]⟩, V.str ⟨#[]⟩] ps.toList) := build_lay la88 ze88
theorem xb88 (H : Hint) (d : Nat) (ty : TypeId) (ps : Array (Nat × Operand)) (pos : String) (aft : Array Edge) (g : Option (Nat × Bool)) : isX Try.prog H { dst := some d, op := .build 88 ps, type := ty, pos := pos, after := aft, guard := g } = !memN d H.arrs := by kernel_rfl
theorem fa88_0 (v : V) : vFieldAddr Try.prog 88 0 v = faddr 0 v := by kernel_rfl
theorem fg88_0 (s : St) (v : V) : vField Try.prog s 88 0 v = fget 0 1 false v := by kernel_rfl
theorem fa88_1 (v : V) : vFieldAddr Try.prog 88 1 v = faddr 1 v := by kernel_rfl
theorem fg88_1 (s : St) (v : V) : vField Try.prog s 88 1 v = fget 1 1 false v := by kernel_rfl
theorem fa88_2 (v : V) : vFieldAddr Try.prog 88 2 v = faddr 2 v := by kernel_rfl
theorem fg88_2 (s : St) (v : V) : vField Try.prog s 88 2 v = fget 2 1 false v := by kernel_rfl
theorem sz89 : szOf Try.prog 89 = 3 := by kernel_rfl
theorem ag89 : isAgg Try.prog 89 = true := by kernel_rfl
theorem ze89 : zero Try.prog 89 = some [V.str ⟨#[]⟩, V.str ⟨#[]⟩, V.str ⟨#[]⟩] := by kernel_rfl
theorem la89 : layOf Try.prog 89 = some [(9, 0, 1), (9, 1, 1), (9, 2, 1)] := by kernel_rfl
theorem bd89 (H : Hint) (d : Nat) (ty : TypeId) (ps : Array (Nat × Operand)) (s : St) : evV Try.prog H d ty (.build 89 ps) s = aggO (buildL Try.prog [(9, 0, 1), (9, 1, 1), (9, 2, 1)] s [V.str ⟨#[]⟩, V.str ⟨#[]⟩, V.str ⟨#[]⟩] ps.toList) := build_lay la89 ze89
theorem xb89 (H : Hint) (d : Nat) (ty : TypeId) (ps : Array (Nat × Operand)) (pos : String) (aft : Array Edge) (g : Option (Nat × Bool)) : isX Try.prog H { dst := some d, op := .build 89 ps, type := ty, pos := pos, after := aft, guard := g } = !memN d H.arrs := by kernel_rfl
theorem fa89_0 (v : V) : vFieldAddr Try.prog 89 0 v = faddr 0 v := by kernel_rfl
theorem fg89_0 (s : St) (v : V) : vField Try.prog s 89 0 v = fget 0 1 false v := by kernel_rfl
theorem fa89_1 (v : V) : vFieldAddr Try.prog 89 1 v = faddr 1 v := by kernel_rfl
theorem fg89_1 (s : St) (v : V) : vField Try.prog s 89 1 v = fget 1 1 false v := by kernel_rfl
theorem fa89_2 (v : V) : vFieldAddr Try.prog 89 2 v = faddr 2 v := by kernel_rfl
theorem fg89_2 (s : St) (v : V) : vField Try.prog s 89 2 v = fget 2 1 false v := by kernel_rfl
theorem ev89 (x0 y0 : ByteArray) (x1 y1 : ByteArray) (x2 y2 : ByteArray) : eqV Try.prog 89 (.agg [V.str x0, V.str x1, V.str x2]) (.agg [V.str y0, V.str y1, V.str y2]) = some ((x0.toList == y0.toList) && ((x1.toList == y1.toList) && ((x2.toList == y2.toList) && true))) := by kernel_rfl
theorem eg89 : Try.prog.eqGuardType Try.prog.depth 89 = false := by kernel_rfl
theorem sz90 : szOf Try.prog 90 = 1 := by kernel_rfl
theorem ag90 : isAgg Try.prog 90 = false := by kernel_rfl
theorem ze90 : zero Try.prog 90 = some [V.nilfn] := by kernel_rfl
theorem sz91 : szOf Try.prog 91 = 1 := by kernel_rfl
theorem ag91 : isAgg Try.prog 91 = false := by kernel_rfl
theorem ze91 : zero Try.prog 91 = some [V.nilfn] := by kernel_rfl
theorem sz92 : szOf Try.prog 92 = 3 := by kernel_rfl
theorem ag92 : isAgg Try.prog 92 = true := by kernel_rfl
theorem ze92 : zero Try.prog 92 = some [V.str ⟨#[]⟩, V.str ⟨#[]⟩, V.str ⟨#[]⟩] := by kernel_rfl
theorem la92 : layOf Try.prog 92 = some [(9, 0, 1), (9, 1, 1), (9, 2, 1)] := by kernel_rfl
theorem bd92 (H : Hint) (d : Nat) (ty : TypeId) (ps : Array (Nat × Operand)) (s : St) : evV Try.prog H d ty (.build 92 ps) s = aggO (buildL Try.prog [(9, 0, 1), (9, 1, 1), (9, 2, 1)] s [V.str ⟨#[]⟩, V.str ⟨#[]⟩, V.str ⟨#[]⟩] ps.toList) := build_lay la92 ze92
theorem xb92 (H : Hint) (d : Nat) (ty : TypeId) (ps : Array (Nat × Operand)) (pos : String) (aft : Array Edge) (g : Option (Nat × Bool)) : isX Try.prog H { dst := some d, op := .build 92 ps, type := ty, pos := pos, after := aft, guard := g } = !memN d H.arrs := by kernel_rfl
theorem fa92_0 (v : V) : vFieldAddr Try.prog 92 0 v = faddr 0 v := by kernel_rfl
theorem fg92_0 (s : St) (v : V) : vField Try.prog s 92 0 v = fget 0 1 false v := by kernel_rfl
theorem fa92_1 (v : V) : vFieldAddr Try.prog 92 1 v = faddr 1 v := by kernel_rfl
theorem fg92_1 (s : St) (v : V) : vField Try.prog s 92 1 v = fget 1 1 false v := by kernel_rfl
theorem fa92_2 (v : V) : vFieldAddr Try.prog 92 2 v = faddr 2 v := by kernel_rfl
theorem fg92_2 (s : St) (v : V) : vField Try.prog s 92 2 v = fget 2 1 false v := by kernel_rfl
theorem ev92 (x0 y0 : ByteArray) (x1 y1 : ByteArray) (x2 y2 : ByteArray) : eqV Try.prog 92 (.agg [V.str x0, V.str x1, V.str x2]) (.agg [V.str y0, V.str y1, V.str y2]) = some ((x0.toList == y0.toList) && ((x1.toList == y1.toList) && ((x2.toList == y2.toList) && true))) := by kernel_rfl
theorem eg92 : Try.prog.eqGuardType Try.prog.depth 92 = false := by kernel_rfl
theorem sz93 : szOf Try.prog 93 = 1 := by kernel_rfl
theorem ag93 : isAgg Try.prog 93 = false := by kernel_rfl
theorem ze93 : zero Try.prog 93 = some [V.nilfn] := by kernel_rfl
theorem sz94 : szOf Try.prog 94 = 1 := by kernel_rfl
theorem ag94 : isAgg Try.prog 94 = false := by kernel_rfl
theorem ze94 : zero Try.prog 94 = some [V.nilfn] := by kernel_rfl
theorem sz95 : szOf Try.prog 95 = 1 := by kernel_rfl
theorem ag95 : isAgg Try.prog 95 = false := by kernel_rfl
theorem ze95 : zero Try.prog 95 = some [V.nilfn] := by kernel_rfl
theorem sz96 : szOf Try.prog 96 = 1 := by kernel_rfl
theorem ag96 : isAgg Try.prog 96 = false := by kernel_rfl
theorem ze96 : zero Try.prog 96 = some [V.nilfn] := by kernel_rfl
theorem u97 : Try.prog.underlying 97 = some (.slice 99) := by kernel_rfl
theorem sz97 : szOf Try.prog 97 = 1 := by kernel_rfl
theorem ag97 : isAgg Try.prog 97 = false := by kernel_rfl
theorem eo97 : elemOf Try.prog 97 = 99 := by kernel_rfl
theorem es97 : elemSz Try.prog 97 = 3 := by kernel_rfl
theorem gr97 : growB Try.prog 97 = true := by kernel_rfl
theorem df97 : dflt Try.prog 97 = V.agg [V.int .i64 0, V.str ⟨#[]⟩, V.slc false 3 []] := by kernel_rfl
theorem ze97 : zero Try.prog 97 = some [V.slc true 3 []] := by kernel_rfl
theorem sz98 : szOf Try.prog 98 = 3 := by kernel_rfl
theorem ag98 : isAgg Try.prog 98 = true := by kernel_rfl
theorem ze98 : zero Try.prog 98 = some [V.int .i64 0, V.str ⟨#[]⟩, V.slc true 3 []] := by kernel_rfl
theorem la98 : layOf Try.prog 98 = some [(3, 0, 1), (9, 1, 1), (97, 2, 1)] := by kernel_rfl
theorem bd98 (H : Hint) (d : Nat) (ty : TypeId) (ps : Array (Nat × Operand)) (s : St) : evV Try.prog H d ty (.build 98 ps) s = aggO (buildL Try.prog [(3, 0, 1), (9, 1, 1), (97, 2, 1)] s [V.int .i64 0, V.str ⟨#[]⟩, V.slc true 3 []] ps.toList) := build_lay la98 ze98
theorem xb98 (H : Hint) (d : Nat) (ty : TypeId) (ps : Array (Nat × Operand)) (pos : String) (aft : Array Edge) (g : Option (Nat × Bool)) : isX Try.prog H { dst := some d, op := .build 98 ps, type := ty, pos := pos, after := aft, guard := g } = !memN d H.arrs := by kernel_rfl
theorem fa98_0 (v : V) : vFieldAddr Try.prog 98 0 v = faddr 0 v := by kernel_rfl
theorem fg98_0 (s : St) (v : V) : vField Try.prog s 98 0 v = fget 0 1 false v := by kernel_rfl
theorem fa98_1 (v : V) : vFieldAddr Try.prog 98 1 v = faddr 1 v := by kernel_rfl
theorem fg98_1 (s : St) (v : V) : vField Try.prog s 98 1 v = fget 1 1 false v := by kernel_rfl
theorem fa98_2 (v : V) : vFieldAddr Try.prog 98 2 v = faddr 2 v := by kernel_rfl
theorem fg98_2 (s : St) (v : V) : vField Try.prog s 98 2 v = fget 2 1 false v := by kernel_rfl
theorem sz99 : szOf Try.prog 99 = 3 := by kernel_rfl
theorem ag99 : isAgg Try.prog 99 = true := by kernel_rfl
theorem ze99 : zero Try.prog 99 = some [V.int .i64 0, V.str ⟨#[]⟩, V.slc true 3 []] := by kernel_rfl
theorem la99 : layOf Try.prog 99 = some [(3, 0, 1), (9, 1, 1), (97, 2, 1)] := by kernel_rfl
theorem bd99 (H : Hint) (d : Nat) (ty : TypeId) (ps : Array (Nat × Operand)) (s : St) : evV Try.prog H d ty (.build 99 ps) s = aggO (buildL Try.prog [(3, 0, 1), (9, 1, 1), (97, 2, 1)] s [V.int .i64 0, V.str ⟨#[]⟩, V.slc true 3 []] ps.toList) := build_lay la99 ze99
theorem xb99 (H : Hint) (d : Nat) (ty : TypeId) (ps : Array (Nat × Operand)) (pos : String) (aft : Array Edge) (g : Option (Nat × Bool)) : isX Try.prog H { dst := some d, op := .build 99 ps, type := ty, pos := pos, after := aft, guard := g } = !memN d H.arrs := by kernel_rfl
theorem fa99_0 (v : V) : vFieldAddr Try.prog 99 0 v = faddr 0 v := by kernel_rfl
theorem fg99_0 (s : St) (v : V) : vField Try.prog s 99 0 v = fget 0 1 false v := by kernel_rfl
theorem fa99_1 (v : V) : vFieldAddr Try.prog 99 1 v = faddr 1 v := by kernel_rfl
theorem fg99_1 (s : St) (v : V) : vField Try.prog s 99 1 v = fget 1 1 false v := by kernel_rfl
theorem fa99_2 (v : V) : vFieldAddr Try.prog 99 2 v = faddr 2 v := by kernel_rfl
theorem fg99_2 (s : St) (v : V) : vField Try.prog s 99 2 v = fget 2 1 false v := by kernel_rfl
theorem sz100 : szOf Try.prog 100 = 8 := by kernel_rfl
theorem ag100 : isAgg Try.prog 100 = true := by kernel_rfl
theorem ze100 : zero Try.prog 100 = some [V.int .i64 0, V.str ⟨#[]⟩, V.str ⟨#[]⟩, V.str ⟨#[]⟩, V.str ⟨#[]⟩, V.int .i64 0, V.str ⟨#[]⟩, V.slc true 3 []] := by kernel_rfl
theorem la100 : layOf Try.prog 100 = some [(3, 0, 1), (9, 1, 1), (92, 2, 3), (99, 5, 3)] := by kernel_rfl
theorem bd100 (H : Hint) (d : Nat) (ty : TypeId) (ps : Array (Nat × Operand)) (s : St) : evV Try.prog H d ty (.build 100 ps) s = aggO (buildL Try.prog [(3, 0, 1), (9, 1, 1), (92, 2, 3), (99, 5, 3)] s [V.int .i64 0, V.str ⟨#[]⟩, V.str ⟨#[]⟩, V.str ⟨#[]⟩, V.str ⟨#[]⟩, V.int .i64 0, V.str ⟨#[]⟩, V.slc true 3 []] ps.toList) := build_lay la100 ze100
theorem xb100 (H : Hint) (d : Nat) (ty : TypeId) (ps : Array (Nat × Operand)) (pos : String) (aft : Array Edge) (g : Option (Nat × Bool)) : isX Try.prog H { dst := some d, op := .build 100 ps, type := ty, pos := pos, after := aft, guard := g } = !memN d H.arrs := by kernel_rfl
theorem fa100_0 (v : V) : vFieldAddr Try.prog 100 0 v = faddr 0 v := by kernel_rfl
theorem fg100_0 (s : St) (v : V) : vField Try.prog s 100 0 v = fget 0 1 false v := by kernel_rfl
theorem fa100_1 (v : V) : vFieldAddr Try.prog 100 1 v = faddr 1 v := by kernel_rfl
theorem fg100_1 (s : St) (v : V) : vField Try.prog s 100 1 v = fget 1 1 false v := by kernel_rfl
theorem fa100_2 (v : V) : vFieldAddr Try.prog 100 2 v = faddr 2 v := by kernel_rfl
theorem fg100_2 (s : St) (v : V) : vField Try.prog s 100 2 v = fget 2 3 true v := by kernel_rfl
theorem fa100_3 (v : V) : vFieldAddr Try.prog 100 3 v = faddr 5 v := by kernel_rfl
theorem fg100_3 (s : St) (v : V) : vField Try.prog s 100 3 v = fget 5 3 true v := by kernel_rfl
theorem sz101 : szOf Try.prog 101 = 8 := by kernel_rfl
theorem ag101 : isAgg Try.prog 101 = true := by kernel_rfl
theorem ze101 : zero Try.prog 101 = some [V.int .i64 0, V.str ⟨#[]⟩, V.str ⟨#[]⟩, V.str ⟨#[]⟩, V.str ⟨#[]⟩, V.int .i64 0, V.str ⟨#[]⟩, V.slc true 3 []] := by kernel_rfl
theorem la101 : layOf Try.prog 101 = some [(3, 0, 1), (9, 1, 1), (92, 2, 3), (99, 5, 3)] := by kernel_rfl
theorem bd101 (H : Hint) (d : Nat) (ty : TypeId) (ps : Array (Nat × Operand)) (s : St) : evV Try.prog H d ty (.build 101 ps) s = aggO (buildL Try.prog [(3, 0, 1), (9, 1, 1), (92, 2, 3), (99, 5, 3)] s [V.int .i64 0, V.str ⟨#[]⟩, V.str ⟨#[]⟩, V.str ⟨#[]⟩, V.str ⟨#[]⟩, V.int .i64 0, V.str ⟨#[]⟩, V.slc true 3 []] ps.toList) := build_lay la101 ze101
theorem xb101 (H : Hint) (d : Nat) (ty : TypeId) (ps : Array (Nat × Operand)) (pos : String) (aft : Array Edge) (g : Option (Nat × Bool)) : isX Try.prog H { dst := some d, op := .build 101 ps, type := ty, pos := pos, after := aft, guard := g } = !memN d H.arrs := by kernel_rfl
theorem fa101_0 (v : V) : vFieldAddr Try.prog 101 0 v = faddr 0 v := by kernel_rfl
theorem fg101_0 (s : St) (v : V) : vField Try.prog s 101 0 v = fget 0 1 false v := by kernel_rfl
theorem fa101_1 (v : V) : vFieldAddr Try.prog 101 1 v = faddr 1 v := by kernel_rfl
theorem fg101_1 (s : St) (v : V) : vField Try.prog s 101 1 v = fget 1 1 false v := by kernel_rfl
theorem fa101_2 (v : V) : vFieldAddr Try.prog 101 2 v = faddr 2 v := by kernel_rfl
theorem fg101_2 (s : St) (v : V) : vField Try.prog s 101 2 v = fget 2 3 true v := by kernel_rfl
theorem fa101_3 (v : V) : vFieldAddr Try.prog 101 3 v = faddr 5 v := by kernel_rfl
theorem fg101_3 (s : St) (v : V) : vField Try.prog s 101 3 v = fget 5 3 true v := by kernel_rfl
theorem sz102 : szOf Try.prog 102 = 1 := by kernel_rfl
theorem ag102 : isAgg Try.prog 102 = false := by kernel_rfl
theorem ze102 : zero Try.prog 102 = some [V.nilfn] := by kernel_rfl
theorem sz103 : szOf Try.prog 103 = 1 := by kernel_rfl
theorem ag103 : isAgg Try.prog 103 = false := by kernel_rfl
theorem ze103 : zero Try.prog 103 = some [V.nilfn] := by kernel_rfl
theorem sz104 : szOf Try.prog 104 = 1 := by kernel_rfl
theorem ag104 : isAgg Try.prog 104 = false := by kernel_rfl
theorem ze104 : zero Try.prog 104 = some [V.nilfn] := by kernel_rfl
theorem sz105 : szOf Try.prog 105 = 1 := by kernel_rfl
theorem ag105 : isAgg Try.prog 105 = false := by kernel_rfl
theorem ze105 : zero Try.prog 105 = some [V.nilfn] := by kernel_rfl
theorem sz106 : szOf Try.prog 106 = 1 := by kernel_rfl
theorem ag106 : isAgg Try.prog 106 = false := by kernel_rfl
theorem ze106 : zero Try.prog 106 = some [V.nilfn] := by kernel_rfl
theorem sz107 : szOf Try.prog 107 = 1 := by kernel_rfl
theorem ag107 : isAgg Try.prog 107 = false := by kernel_rfl
theorem ze107 : zero Try.prog 107 = some [V.nilfn] := by kernel_rfl
theorem sz108 : szOf Try.prog 108 = 1 := by kernel_rfl
theorem ag108 : isAgg Try.prog 108 = false := by kernel_rfl
theorem ze108 : zero Try.prog 108 = some [V.nilfn] := by kernel_rfl
theorem u109 : Try.prog.underlying 109 = some (.slice 113) := by kernel_rfl
theorem sz109 : szOf Try.prog 109 = 1 := by kernel_rfl
theorem ag109 : isAgg Try.prog 109 = false := by kernel_rfl
theorem eo109 : elemOf Try.prog 109 = 113 := by kernel_rfl
theorem es109 : elemSz Try.prog 109 = 2 := by kernel_rfl
theorem gr109 : growB Try.prog 109 = true := by kernel_rfl
theorem df109 : dflt Try.prog 109 = V.agg [V.int .u8 0, V.str ⟨#[]⟩] := by kernel_rfl
theorem ze109 : zero Try.prog 109 = some [V.slc true 2 []] := by kernel_rfl
theorem sz110 : szOf Try.prog 110 = 1 := by kernel_rfl
theorem ag110 : isAgg Try.prog 110 = false := by kernel_rfl
theorem ze110 : zero Try.prog 110 = some [V.nilfn] := by kernel_rfl
theorem sz111 : szOf Try.prog 111 = 1 := by kernel_rfl
theorem ag111 : isAgg Try.prog 111 = false := by kernel_rfl
theorem ze111 : zero Try.prog 111 = some [V.nilfn] := by kernel_rfl
theorem sz112 : szOf Try.prog 112 = 2 := by kernel_rfl
theorem ag112 : isAgg Try.prog 112 = true := by kernel_rfl
theorem ze112 : zero Try.prog 112 = some [V.int .u8 0, V.str ⟨#[]⟩] := by kernel_rfl
theorem la112 : layOf Try.prog 112 = some [(5, 0, 1), (9, 1, 1)] := by kernel_rfl
theorem bd112 (H : Hint) (d : Nat) (ty : TypeId) (ps : Array (Nat × Operand)) (s : St) : evV Try.prog H d ty (.build 112 ps) s = aggO (buildL Try.prog [(5, 0, 1), (9, 1, 1)] s [V.int .u8 0, V.str ⟨#[]⟩] ps.toList) := build_lay la112 ze112
theorem xb112 (H : Hint) (d : Nat) (ty : TypeId) (ps : Array (Nat × Operand)) (pos : String) (aft : Array Edge) (g : Option (Nat × Bool)) : isX Try.prog H { dst := some d, op := .build 112 ps, type := ty, pos := pos, after := aft, guard := g } = !memN d H.arrs := by kernel_rfl
theorem fa112_0 (v : V) : vFieldAddr Try.prog 112 0 v = faddr 0 v := by kernel_rfl
theorem fg112_0 (s : St) (v : V) : vField Try.prog s 112 0 v = fget 0 1 false v := by kernel_rfl
theorem fa112_1 (v : V) : vFieldAddr Try.prog 112 1 v = faddr 1 v := by kernel_rfl
theorem fg112_1 (s : St) (v : V) : vField Try.prog s 112 1 v = fget 1 1 false v := by kernel_rfl
theorem sz113 : szOf Try.prog 113 = 2 := by kernel_rfl
theorem ag113 : isAgg Try.prog 113 = true := by kernel_rfl
theorem ze113 : zero Try.prog 113 = some [V.int .u8 0, V.str ⟨#[]⟩] := by kernel_rfl
theorem la113 : layOf Try.prog 113 = some [(5, 0, 1), (9, 1, 1)] := by kernel_rfl
theorem bd113 (H : Hint) (d : Nat) (ty : TypeId) (ps : Array (Nat × Operand)) (s : St) : evV Try.prog H d ty (.build 113 ps) s = aggO (buildL Try.prog [(5, 0, 1), (9, 1, 1)] s [V.int .u8 0, V.str ⟨#[]⟩] ps.toList) := build_lay la113 ze113
theorem xb113 (H : Hint) (d : Nat) (ty : TypeId) (ps : Array (Nat × Operand)) (pos : String) (aft : Array Edge) (g : Option (Nat × Bool)) : isX Try.prog H { dst := some d, op := .build 113 ps, type := ty, pos := pos, after := aft, guard := g } = !memN d H.arrs := by kernel_rfl
theorem fa113_0 (v : V) : vFieldAddr Try.prog 113 0 v = faddr 0 v := by kernel_rfl
theorem fg113_0 (s : St) (v : V) : vField Try.prog s 113 0 v = fget 0 1 false v := by kernel_rfl
theorem fa113_1 (v : V) : vFieldAddr Try.prog 113 1 v = faddr 1 v := by kernel_rfl
theorem fg113_1 (s : St) (v : V) : vField Try.prog s 113 1 v = fget 1 1 false v := by kernel_rfl
theorem ev113 (x0 y0 : Int) (x1 y1 : ByteArray) : eqV Try.prog 113 (.agg [V.int .u8 x0, V.str x1]) (.agg [V.int .u8 y0, V.str y1]) = some ((x0 == y0) && ((x1.toList == y1.toList) && true)) := by kernel_rfl
theorem eg113 : Try.prog.eqGuardType Try.prog.depth 113 = false := by kernel_rfl
theorem sz114 : szOf Try.prog 114 = 1 := by kernel_rfl
theorem ag114 : isAgg Try.prog 114 = false := by kernel_rfl
theorem ze114 : zero Try.prog 114 = some [V.nilfn] := by kernel_rfl
theorem sz115 : szOf Try.prog 115 = 5 := by kernel_rfl
theorem ag115 : isAgg Try.prog 115 = true := by kernel_rfl
theorem ze115 : zero Try.prog 115 = some [V.int .u8 0, V.str ⟨#[]⟩, V.str ⟨#[]⟩, V.str ⟨#[]⟩, V.slc true 1 []] := by kernel_rfl
theorem la115 : layOf Try.prog 115 = some [(113, 0, 2), (52, 2, 3)] := by kernel_rfl
theorem bd115 (H : Hint) (d : Nat) (ty : TypeId) (ps : Array (Nat × Operand)) (s : St) : evV Try.prog H d ty (.build 115 ps) s = aggO (buildL Try.prog [(113, 0, 2), (52, 2, 3)] s [V.int .u8 0, V.str ⟨#[]⟩, V.str ⟨#[]⟩, V.str ⟨#[]⟩, V.slc true 1 []] ps.toList) := build_lay la115 ze115
theorem xb115 (H : Hint) (d : Nat) (ty : TypeId) (ps : Array (Nat × Operand)) (pos : String) (aft : Array Edge) (g : Option (Nat × Bool)) : isX Try.prog H { dst := some d, op := .build 115 ps, type := ty, pos := pos, after := aft, guard := g } = !memN d H.arrs := by kernel_rfl
theorem fa115_0 (v : V) : vFieldAddr Try.prog 115 0 v = faddr 0 v := by kernel_rfl
theorem fg115_0 (s : St) (v : V) : vField Try.prog s 115 0 v = fget 0 2 true v := by kernel_rfl
theorem fa115_1 (v : V) : vFieldAddr Try.prog 115 1 v = faddr 2 v := by kernel_rfl
theorem fg115_1 (s : St) (v : V) : vField Try.prog s 115 1 v = fget 2 3 true v := by kernel_rfl
theorem sz116 : szOf Try.prog 116 = 5 := by kernel_rfl
theorem ag116 : isAgg Try.prog 116 = true := by kernel_rfl
theorem ze116 : zero Try.prog 116 = some [V.int .u8 0, V.str ⟨#[]⟩, V.str ⟨#[]⟩, V.str ⟨#[]⟩, V.slc true 1 []] := by kernel_rfl
theorem la116 : layOf Try.prog 116 = some [(113, 0, 2), (52, 2, 3)] := by kernel_rfl
theorem bd116 (H : Hint) (d : Nat) (ty : TypeId) (ps : Array (Nat × Operand)) (s : St) : evV Try.prog H d ty (.build 116 ps) s = aggO (buildL Try.prog [(113, 0, 2), (52, 2, 3)] s [V.int .u8 0, V.str ⟨#[]⟩, V.str ⟨#[]⟩, V.str ⟨#[]⟩, V.slc true 1 []] ps.toList) := build_lay la116 ze116
theorem xb116 (H : Hint) (d : Nat) (ty : TypeId) (ps : Array (Nat × Operand)) (pos : String) (aft : Array Edge) (g : Option (Nat × Bool)) : isX Try.prog H { dst := some d, op := .build 116 ps, type := ty, pos := pos, after := aft, guard := g } = !memN d H.arrs := by kernel_rfl
theorem fa116_0 (v : V) : vFieldAddr Try.prog 116 0 v = faddr 0 v := by kernel_rfl
theorem fg116_0 (s : St) (v : V) : vField Try.prog s 116 0 v = fget 0 2 true v := by kernel_rfl
theorem fa116_1 (v : V) : vFieldAddr Try.prog 116 1 v = faddr 2 v := by kernel_rfl
theorem fg116_1 (s : St) (v : V) : vField Try.prog s 116 1 v = fget 2 3 true v := by kernel_rfl
theorem sz117 : szOf Try.prog 117 = 1 := by kernel_rfl
theorem ag117 : isAgg Try.prog 117 = false := by kernel_rfl
theorem ze117 : zero Try.prog 117 = some [V.nilfn] := by kernel_rfl
theorem sz118 : szOf Try.prog 118 = 1 := by kernel_rfl
theorem ag118 : isAgg Try.prog 118 = false := by kernel_rfl
theorem ze118 : zero Try.prog 118 = some [V.nilfn] := by kernel_rfl
theorem sz119 : szOf Try.prog 119 = 1 := by kernel_rfl
theorem ag119 : isAgg Try.prog 119 = false := by kernel_rfl
theorem ze119 : zero Try.prog 119 = some [V.nilfn] := by kernel_rfl
theorem sz120 : szOf Try.prog 120 = 1 := by kernel_rfl
theorem ag120 : isAgg Try.prog 120 = false := by kernel_rfl
theorem ze120 : zero Try.prog 120 = some [V.nilfn] := by kernel_rfl
theorem sz121 : szOf Try.prog 121 = 1 := by kernel_rfl
theorem ag121 : isAgg Try.prog 121 = false := by kernel_rfl
theorem ze121 : zero Try.prog 121 = some [V.nilfn] := by kernel_rfl
theorem sz122 : szOf Try.prog 122 = 1 := by kernel_rfl
theorem ag122 : isAgg Try.prog 122 = false := by kernel_rfl
theorem ze122 : zero Try.prog 122 = some [V.nilfn] := by kernel_rfl
theorem sz123 : szOf Try.prog 123 = 1 := by kernel_rfl
theorem ag123 : isAgg Try.prog 123 = false := by kernel_rfl
theorem ze123 : zero Try.prog 123 = some [V.nilfn] := by kernel_rfl
theorem sz124 : szOf Try.prog 124 = 1 := by kernel_rfl
theorem ag124 : isAgg Try.prog 124 = false := by kernel_rfl
theorem ze124 : zero Try.prog 124 = some [V.nilfn] := by kernel_rfl
theorem sz125 : szOf Try.prog 125 = 1 := by kernel_rfl
theorem ag125 : isAgg Try.prog 125 = false := by kernel_rfl
theorem ze125 : zero Try.prog 125 = some [V.nilfn] := by kernel_rfl
theorem sz126 : szOf Try.prog 126 = 1 := by kernel_rfl
theorem ag126 : isAgg Try.prog 126 = false := by kernel_rfl
theorem ze126 : zero Try.prog 126 = some [V.nilfn] := by kernel_rfl
theorem sz127 : szOf Try.prog 127 = 1 := by kernel_rfl
theorem ag127 : isAgg Try.prog 127 = false := by kernel_rfl
theorem ze127 : zero Try.prog 127 = some [V.nilfn] := by kernel_rfl
theorem sz128 : szOf Try.prog 128 = 1 := by kernel_rfl
theorem ag128 : isAgg Try.prog 128 = false := by kernel_rfl
theorem ze128 : zero Try.prog 128 = some [V.nilfn] := by kernel_rfl
theorem sz129 : szOf Try.prog 129 = 1 := by kernel_rfl
theorem ag129 : isAgg Try.prog 129 = false := by kernel_rfl
theorem ze129 : zero Try.prog 129 = some [V.nilfn] := by kernel_rfl
theorem sz130 : szOf Try.prog 130 = 1 := by kernel_rfl
theorem ag130 : isAgg Try.prog 130 = false := by kernel_rfl
theorem ze130 : zero Try.prog 130 = some [V.nilfn] := by kernel_rfl
theorem sz131 : szOf Try.prog 131 = 1 := by kernel_rfl
theorem ag131 : isAgg Try.prog 131 = false := by kernel_rfl
theorem ze131 : zero Try.prog 131 = some [V.nilfn] := by kernel_rfl
theorem sz132 : szOf Try.prog 132 = 1 := by kernel_rfl
theorem ag132 : isAgg Try.prog 132 = false := by kernel_rfl
theorem ze132 : zero Try.prog 132 = some [V.nilfn] := by kernel_rfl
theorem sz133 : szOf Try.prog 133 = 1 := by kernel_rfl
theorem ag133 : isAgg Try.prog 133 = false := by kernel_rfl
theorem ze133 : zero Try.prog 133 = some [V.nilfn] := by kernel_rfl
theorem sz134 : szOf Try.prog 134 = 1 := by kernel_rfl
theorem ag134 : isAgg Try.prog 134 = false := by kernel_rfl
theorem ze134 : zero Try.prog 134 = some [V.nilfn] := by kernel_rfl
theorem sz135 : szOf Try.prog 135 = 1 := by kernel_rfl
theorem ag135 : isAgg Try.prog 135 = false := by kernel_rfl
theorem ze135 : zero Try.prog 135 = some [V.nilfn] := by kernel_rfl
theorem sz136 : szOf Try.prog 136 = 1 := by kernel_rfl
theorem ag136 : isAgg Try.prog 136 = false := by kernel_rfl
theorem ze136 : zero Try.prog 136 = some [V.nilfn] := by kernel_rfl
theorem sz137 : szOf Try.prog 137 = 8 := by kernel_rfl
theorem ag137 : isAgg Try.prog 137 = true := by kernel_rfl
theorem ze137 : zero Try.prog 137 = some [V.int .i64 0, V.str ⟨#[]⟩, V.str ⟨#[]⟩, V.int .i64 0, V.str ⟨#[]⟩, V.slc true 3 [], V.slc true 1 [], V.int .i64 0] := by kernel_rfl
theorem la137 : layOf Try.prog 137 = some [(3, 0, 1), (9, 1, 1), (9, 2, 1), (99, 3, 3), (36, 6, 1), (3, 7, 1)] := by kernel_rfl
theorem bd137 (H : Hint) (d : Nat) (ty : TypeId) (ps : Array (Nat × Operand)) (s : St) : evV Try.prog H d ty (.build 137 ps) s = aggO (buildL Try.prog [(3, 0, 1), (9, 1, 1), (9, 2, 1), (99, 3, 3), (36, 6, 1), (3, 7, 1)] s [V.int .i64 0, V.str ⟨#[]⟩, V.str ⟨#[]⟩, V.int .i64 0, V.str ⟨#[]⟩, V.slc true 3 [], V.slc true 1 [], V.int .i64 0] ps.toList) := build_lay la137 ze137
theorem xb137 (H : Hint) (d : Nat) (ty : TypeId) (ps : Array (Nat × Operand)) (pos : String) (aft : Array Edge) (g : Option (Nat × Bool)) : isX Try.prog H { dst := some d, op := .build 137 ps, type := ty, pos := pos, after := aft, guard := g } = !memN d H.arrs := by kernel_rfl
theorem fa137_0 (v : V) : vFieldAddr Try.prog 137 0 v = faddr 0 v := by kernel_rfl
theorem fg137_0 (s : St) (v : V) : vField Try.prog s 137 0 v = fget 0 1 false v := by kernel_rfl
theorem fa137_1 (v : V) : vFieldAddr Try.prog 137 1 v = faddr 1 v := by kernel_rfl
theorem fg137_1 (s : St) (v : V) : vField Try.prog s 137 1 v = fget 1 1 false v := by kernel_rfl
theorem fa137_2 (v : V) : vFieldAddr Try.prog 137 2 v = faddr 2 v := by kernel_rfl
theorem fg137_2 (s : St) (v : V) : vField Try.prog s 137 2 v = fget 2 1 false v := by kernel_rfl
theorem fa137_3 (v : V) : vFieldAddr Try.prog 137 3 v = faddr 3 v := by kernel_rfl
theorem fg137_3 (s : St) (v : V) : vField Try.prog s 137 3 v = fget 3 3 true v := by kernel_rfl
theorem fa137_4 (v : V) : vFieldAddr Try.prog 137 4 v = faddr 6 v := by kernel_rfl
theorem fg137_4 (s : St) (v : V) : vField Try.prog s 137 4 v = fget 6 1 false v := by kernel_rfl
theorem fa137_5 (v : V) : vFieldAddr Try.prog 137 5 v = faddr 7 v := by kernel_rfl
theorem fg137_5 (s : St) (v : V) : vField Try.prog s 137 5 v = fget 7 1 false v := by kernel_rfl
theorem sz138 : szOf Try.prog 138 = 8 := by kernel_rfl
theorem ag138 : isAgg Try.prog 138 = true := by kernel_rfl
theorem ze138 : zero Try.prog 138 = some [V.int .i64 0, V.str ⟨#[]⟩, V.str ⟨#[]⟩, V.int .i64 0, V.str ⟨#[]⟩, V.slc true 3 [], V.slc true 1 [], V.int .i64 0] := by kernel_rfl
theorem la138 : layOf Try.prog 138 = some [(3, 0, 1), (9, 1, 1), (9, 2, 1), (99, 3, 3), (36, 6, 1), (3, 7, 1)] := by kernel_rfl
theorem bd138 (H : Hint) (d : Nat) (ty : TypeId) (ps : Array (Nat × Operand)) (s : St) : evV Try.prog H d ty (.build 138 ps) s = aggO (buildL Try.prog [(3, 0, 1), (9, 1, 1), (9, 2, 1), (99, 3, 3), (36, 6, 1), (3, 7, 1)] s [V.int .i64 0, V.str ⟨#[]⟩, V.str ⟨#[]⟩, V.int .i64 0, V.str ⟨#[]⟩, V.slc true 3 [], V.slc true 1 [], V.int .i64 0] ps.toList) := build_lay la138 ze138
theorem xb138 (H : Hint) (d : Nat) (ty : TypeId) (ps : Array (Nat × Operand)) (pos : String) (aft : Array Edge) (g : Option (Nat × Bool)) : isX Try.prog H { dst := some d, op := .build 138 ps, type := ty, pos := pos, after := aft, guard := g } = !memN d H.arrs := by kernel_rfl
theorem fa138_0 (v : V) : vFieldAddr Try.prog 138 0 v = faddr 0 v := by kernel_rfl
theorem fg138_0 (s : St) (v : V) : vField Try.prog s 138 0 v = fget 0 1 false v := by kernel_rfl
theorem fa138_1 (v : V) : vFieldAddr Try.prog 138 1 v = faddr 1 v := by kernel_rfl
theorem fg138_1 (s : St) (v : V) : vField Try.prog s 138 1 v = fget 1 1 false v := by kernel_rfl
theorem fa138_2 (v : V) : vFieldAddr Try.prog 138 2 v = faddr 2 v := by kernel_rfl
theorem fg138_2 (s : St) (v : V) : vField Try.prog s 138 2 v = fget 2 1 false v := by kernel_rfl
theorem fa138_3 (v : V) : vFieldAddr Try.prog 138 3 v = faddr 3 v := by kernel_rfl
theorem fg138_3 (s : St) (v : V) : vField Try.prog s 138 3 v = fget 3 3 true v := by kernel_rfl
theorem fa138_4 (v : V) : vFieldAddr Try.prog 138 4 v = faddr 6 v := by kernel_rfl
theorem fg138_4 (s : St) (v : V) : vField Try.prog s 138 4 v = fget 6 1 false v := by kernel_rfl
theorem fa138_5 (v : V) : vFieldAddr Try.prog 138 5 v = faddr 7 v := by kernel_rfl
theorem fg138_5 (s : St) (v : V) : vField Try.prog s 138 5 v = fget 7 1 false v := by kernel_rfl
theorem sz139 : szOf Try.prog 139 = 1 := by kernel_rfl
theorem ag139 : isAgg Try.prog 139 = false := by kernel_rfl
theorem ze139 : zero Try.prog 139 = some [V.nilfn] := by kernel_rfl
theorem sz140 : szOf Try.prog 140 = 1 := by kernel_rfl
theorem ag140 : isAgg Try.prog 140 = false := by kernel_rfl
theorem ze140 : zero Try.prog 140 = some [V.nilfn] := by kernel_rfl
theorem sz141 : szOf Try.prog 141 = 1 := by kernel_rfl
theorem ag141 : isAgg Try.prog 141 = false := by kernel_rfl
theorem ze141 : zero Try.prog 141 = some [V.nilfn] := by kernel_rfl
theorem sz142 : szOf Try.prog 142 = 1 := by kernel_rfl
theorem ag142 : isAgg Try.prog 142 = false := by kernel_rfl
theorem ze142 : zero Try.prog 142 = some [V.nilfn] := by kernel_rfl
theorem sz143 : szOf Try.prog 143 = 1 := by kernel_rfl
theorem ag143 : isAgg Try.prog 143 = false := by kernel_rfl
theorem ze143 : zero Try.prog 143 = some [V.nilfn] := by kernel_rfl
theorem sz144 : szOf Try.prog 144 = 1 := by kernel_rfl
theorem ag144 : isAgg Try.prog 144 = false := by kernel_rfl
theorem ze144 : zero Try.prog 144 = some [V.nilfn] := by kernel_rfl
theorem sz145 : szOf Try.prog 145 = 1 := by kernel_rfl
theorem ag145 : isAgg Try.prog 145 = false := by kernel_rfl
theorem ze145 : zero Try.prog 145 = some [V.nilfn] := by kernel_rfl
theorem sz146 : szOf Try.prog 146 = 1 := by kernel_rfl
theorem ag146 : isAgg Try.prog 146 = false := by kernel_rfl
theorem ze146 : zero Try.prog 146 = some [V.nilfn] := by kernel_rfl
theorem sz148 : szOf Try.prog 148 = 1 := by kernel_rfl
theorem ag148 : isAgg Try.prog 148 = false := by kernel_rfl
theorem ze148 : zero Try.prog 148 = some [V.nilfn] := by kernel_rfl
theorem sz149 : szOf Try.prog 149 = 1 := by kernel_rfl
theorem ag149 : isAgg Try.prog 149 = false := by kernel_rfl
theorem ze149 : zero Try.prog 149 = some [V.nilfn] := by kernel_rfl
theorem sz150 : szOf Try.prog 150 = 1 := by kernel_rfl
theorem ag150 : isAgg Try.prog 150 = false := by kernel_rfl
theorem ze150 : zero Try.prog 150 = some [V.nilfn] := by kernel_rfl
theorem sz151 : szOf Try.prog 151 = 1 := by kernel_rfl
theorem ag151 : isAgg Try.prog 151 = false := by kernel_rfl
theorem ze151 : zero Try.prog 151 = some [V.nilfn] := by kernel_rfl
theorem sz152 : szOf Try.prog 152 = 1 := by kernel_rfl
theorem ag152 : isAgg Try.prog 152 = false := by kernel_rfl
theorem ze152 : zero Try.prog 152 = some [V.nilfn] := by kernel_rfl
theorem sz153 : szOf Try.prog 153 = 1 := by kernel_rfl
theorem ag153 : isAgg Try.prog 153 = false := by kernel_rfl
theorem ze153 : zero Try.prog 153 = some [V.nilfn] := by kernel_rfl
theorem sz154 : szOf Try.prog 154 = 1 := by kernel_rfl
theorem ag154 : isAgg Try.prog 154 = false := by kernel_rfl
theorem ze154 : zero Try.prog 154 = some [V.nilfn] := by kernel_rfl
theorem sz155 : szOf Try.prog 155 = 1 := by kernel_rfl
theorem ag155 : isAgg Try.prog 155 = false := by kernel_rfl
theorem ze155 : zero Try.prog 155 = some [V.nilfn] := by kernel_rfl
theorem u156 : Try.prog.underlying 156 = some (.slice 158) := by kernel_rfl
theorem sz156 : szOf Try.prog 156 = 1 := by kernel_rfl
theorem ag156 : isAgg Try.prog 156 = false := by kernel_rfl
theorem eo156 : elemOf Try.prog 156 = 158 := by kernel_rfl
theorem es156 : elemSz Try.prog 156 = 3 := by kernel_rfl
theorem gr156 : growB Try.prog 156 = true := by kernel_rfl
theorem df156 : dflt Try.prog 156 = V.agg [V.int .i64 0, V.str ⟨#[]⟩, V.slc false 3 []] := by kernel_rfl
theorem ze156 : zero Try.prog 156 = some [V.slc true 3 []] := by kernel_rfl
theorem sz157 : szOf Try.prog 157 = 3 := by kernel_rfl
theorem ag157 : isAgg Try.prog 157 = true := by kernel_rfl
theorem ze157 : zero Try.prog 157 = some [V.int .i64 0, V.str ⟨#[]⟩, V.slc true 3 []] := by kernel_rfl
theorem la157 : layOf Try.prog 157 = some [(3, 0, 1), (9, 1, 1), (156, 2, 1)] := by kernel_rfl
theorem bd157 (H : Hint) (d : Nat) (ty : TypeId) (ps : Array (Nat × Operand)) (s : St) : evV Try.prog H d ty (.build 157 ps) s = aggO (buildL Try.prog [(3, 0, 1), (9, 1, 1), (156, 2, 1)] s [V.int .i64 0, V.str ⟨#[]⟩, V.slc true 3 []] ps.toList) := build_lay la157 ze157
theorem xb157 (H : Hint) (d : Nat) (ty : TypeId) (ps : Array (Nat × Operand)) (pos : String) (aft : Array Edge) (g : Option (Nat × Bool)) : isX Try.prog H { dst := some d, op := .build 157 ps, type := ty, pos := pos, after := aft, guard := g } = !memN d H.arrs := by kernel_rfl
theorem fa157_0 (v : V) : vFieldAddr Try.prog 157 0 v = faddr 0 v := by kernel_rfl
theorem fg157_0 (s : St) (v : V) : vField Try.prog s 157 0 v = fget 0 1 false v := by kernel_rfl
theorem fa157_1 (v : V) : vFieldAddr Try.prog 157 1 v = faddr 1 v := by kernel_rfl
theorem fg157_1 (s : St) (v : V) : vField Try.prog s 157 1 v = fget 1 1 false v := by kernel_rfl
theorem fa157_2 (v : V) : vFieldAddr Try.prog 157 2 v = faddr 2 v := by kernel_rfl
theorem fg157_2 (s : St) (v : V) : vField Try.prog s 157 2 v = fget 2 1 false v := by kernel_rfl
theorem sz158 : szOf Try.prog 158 = 3 := by kernel_rfl
theorem ag158 : isAgg Try.prog 158 = true := by kernel_rfl
theorem ze158 : zero Try.prog 158 = some [V.int .i64 0, V.str ⟨#[]⟩, V.slc true 3 []] := by kernel_rfl
theorem la158 : layOf Try.prog 158 = some [(3, 0, 1), (9, 1, 1), (156, 2, 1)] := by kernel_rfl
theorem bd158 (H : Hint) (d : Nat) (ty : TypeId) (ps : Array (Nat × Operand)) (s : St) : evV Try.prog H d ty (.build 158 ps) s = aggO (buildL Try.prog [(3, 0, 1), (9, 1, 1), (156, 2, 1)] s [V.int .i64 0, V.str ⟨#[]⟩, V.slc true 3 []] ps.toList) := build_lay la158 ze158
theorem xb158 (H : Hint) (d : Nat) (ty : TypeId) (ps : Array (Nat × Operand)) (pos : String) (aft : Array Edge) (g : Option (Nat × Bool)) : isX Try.prog H { dst := some d, op := .build 158 ps, type := ty, pos := pos, after := aft, guard := g } = !memN d H.arrs := by kernel_rfl
theorem fa158_0 (v : V) : vFieldAddr Try.prog 158 0 v = faddr 0 v := by kernel_rfl
theorem fg158_0 (s : St) (v : V) : vField Try.prog s 158 0 v = fget 0 1 false v := by kernel_rfl
theorem fa158_1 (v : V) : vFieldAddr Try.prog 158 1 v = faddr 1 v := by kernel_rfl
theorem fg158_1 (s : St) (v : V) : vField Try.prog s 158 1 v = fget 1 1 false v := by kernel_rfl
theorem fa158_2 (v : V) : vFieldAddr Try.prog 158 2 v = faddr 2 v := by kernel_rfl
theorem fg158_2 (s : St) (v : V) : vField Try.prog s 158 2 v = fget 2 1 false v := by kernel_rfl
theorem sz159 : szOf Try.prog 159 = 8 := by kernel_rfl
theorem ag159 : isAgg Try.prog 159 = true := by kernel_rfl
theorem ze159 : zero Try.prog 159 = some [V.int .i64 0, V.str ⟨#[]⟩, V.str ⟨#[]⟩, V.str ⟨#[]⟩, V.str ⟨#[]⟩, V.int .i64 0, V.str ⟨#[]⟩, V.slc true 3 []] := by kernel_rfl
theorem la159 : layOf Try.prog 159 = some [(3, 0, 1), (9, 1, 1), (89, 2, 3), (158, 5, 3)] := by kernel_rfl
theorem bd159 (H : Hint) (d : Nat) (ty : TypeId) (ps : Array (Nat × Operand)) (s : St) : evV Try.prog H d ty (.build 159 ps) s = aggO (buildL Try.prog [(3, 0, 1), (9, 1, 1), (89, 2, 3), (158, 5, 3)] s [V.int .i64 0, V.str ⟨#[]⟩, V.str ⟨#[]⟩, V.str ⟨#[]⟩, V.str ⟨#[]⟩, V.int .i64 0, V.str ⟨#[]⟩, V.slc true 3 []] ps.toList) := build_lay la159 ze159
theorem xb159 (H : Hint) (d : Nat) (ty : TypeId) (ps : Array (Nat × Operand)) (pos : String) (aft : Array Edge) (g : Option (Nat × Bool)) : isX Try.prog H { dst := some d, op := .build 159 ps, type := ty, pos := pos, after := aft, guard := g } = !memN d H.arrs := by kernel_rfl
theorem fa159_0 (v : V) : vFieldAddr Try.prog 159 0 v = faddr 0 v := by kernel_rfl
theorem fg159_0 (s : St) (v : V) : vField Try.prog s 159 0 v = fget 0 1 false v := by kernel_rfl
theorem fa159_1 (v : V) : vFieldAddr Try.prog 159 1 v = faddr 1 v := by kernel_rfl
theorem fg159_1 (s : St) (v : V) : vField Try.prog s 159 1 v = fget 1 1 false v := by kernel_rfl
theorem fa159_2 (v : V) : vFieldAddr Try.prog 159 2 v = faddr 2 v := by kernel_rfl
theorem fg159_2 (s : St) (v : V) : vField Try.prog s 159 2 v = fget 2 3 true v := by kernel_rfl
theorem fa159_3 (v : V) : vFieldAddr Try.prog 159 3 v = faddr 5 v := by kernel_rfl
theorem fg159_3 (s : St) (v : V) : vField Try.prog s 159 3 v = fget 5 3 true v := by kernel_rfl
theorem sz160 : szOf Try.prog 160 = 8 := by kernel_rfl
theorem ag160 : isAgg Try.prog 160 = true := by kernel_rfl
theorem ze160 : zero Try.prog 160 = some [V.int .i64 0, V.str ⟨#[]⟩, V.str ⟨#[]⟩, V.str ⟨#[]⟩, V.str ⟨#[]⟩, V.int .i64 0, V.str ⟨#[]⟩, V.slc true 3 []] := by kernel_rfl
theorem la160 : layOf Try.prog 160 = some [(3, 0, 1), (9, 1, 1), (89, 2, 3), (158, 5, 3)] := by kernel_rfl
theorem bd160 (H : Hint) (d : Nat) (ty : TypeId) (ps : Array (Nat × Operand)) (s : St) : evV Try.prog H d ty (.build 160 ps) s = aggO (buildL Try.prog [(3, 0, 1), (9, 1, 1), (89, 2, 3), (158, 5, 3)] s [V.int .i64 0, V.str ⟨#[]⟩, V.str ⟨#[]⟩, V.str ⟨#[]⟩, V.str ⟨#[]⟩, V.int .i64 0, V.str ⟨#[]⟩, V.slc true 3 []] ps.toList) := build_lay la160 ze160
theorem xb160 (H : Hint) (d : Nat) (ty : TypeId) (ps : Array (Nat × Operand)) (pos : String) (aft : Array Edge) (g : Option (Nat × Bool)) : isX Try.prog H { dst := some d, op := .build 160 ps, type := ty, pos := pos, after := aft, guard := g } = !memN d H.arrs := by kernel_rfl
theorem fa160_0 (v : V) : vFieldAddr Try.prog 160 0 v = faddr 0 v := by kernel_rfl
theorem fg160_0 (s : St) (v : V) : vField Try.prog s 160 0 v = fget 0 1 false v := by kernel_rfl
theorem fa160_1 (v : V) : vFieldAddr Try.prog 160 1 v = faddr 1 v := by kernel_rfl
theorem fg160_1 (s : St) (v : V) : vField Try.prog s 160 1 v = fget 1 1 false v := by kernel_rfl
theorem fa160_2 (v : V) : vFieldAddr Try.prog 160 2 v = faddr 2 v := by kernel_rfl
theorem fg160_2 (s : St) (v : V) : vField Try.prog s 160 2 v = fget 2 3 true v := by kernel_rfl
theorem fa160_3 (v : V) : vFieldAddr Try.prog 160 3 v = faddr 5 v := by kernel_rfl
theorem fg160_3 (s : St) (v : V) : vField Try.prog s 160 3 v = fget 5 3 true v := by kernel_rfl
theorem sz161 : szOf Try.prog 161 = 1 := by kernel_rfl
theorem ag161 : isAgg Try.prog 161 = false := by kernel_rfl
theorem ze161 : zero Try.prog 161 = some [V.nilfn] := by kernel_rfl
theorem sz162 : szOf Try.prog 162 = 1 := by kernel_rfl
theorem ag162 : isAgg Try.prog 162 = false := by kernel_rfl
theorem ze162 : zero Try.prog 162 = some [V.nilfn] := by kernel_rfl
theorem sz163 : szOf Try.prog 163 = 1 := by kernel_rfl
theorem ag163 : isAgg Try.prog 163 = false := by kernel_rfl
theorem ze163 : zero Try.prog 163 = some [V.nilfn] := by kernel_rfl
theorem sz164 : szOf Try.prog 164 = 1 := by kernel_rfl
theorem ag164 : isAgg Try.prog 164 = false := by kernel_rfl
theorem ze164 : zero Try.prog 164 = some [V.nilfn] := by kernel_rfl
theorem sz165 : szOf Try.prog 165 = 1 := by kernel_rfl
theorem ag165 : isAgg Try.prog 165 = false := by kernel_rfl
theorem ze165 : zero Try.prog 165 = some [V.nilfn] := by kernel_rfl
theorem sz166 : szOf Try.prog 166 = 1 := by kernel_rfl
theorem ag166 : isAgg Try.prog 166 = false := by kernel_rfl
theorem ze166 : zero Try.prog 166 = some [V.nilfn] := by kernel_rfl
theorem sz167 : szOf Try.prog 167 = 1 := by kernel_rfl
theorem ag167 : isAgg Try.prog 167 = false := by kernel_rfl
theorem ze167 : zero Try.prog 167 = some [V.nilfn] := by kernel_rfl
theorem sz168 : szOf Try.prog 168 = 1 := by kernel_rfl
theorem ag168 : isAgg Try.prog 168 = false := by kernel_rfl
theorem ze168 : zero Try.prog 168 = some [V.nilfn] := by kernel_rfl
theorem sz169 : szOf Try.prog 169 = 1 := by kernel_rfl
theorem ag169 : isAgg Try.prog 169 = false := by kernel_rfl
theorem ze169 : zero Try.prog 169 = some [V.nilfn] := by kernel_rfl
theorem sz170 : szOf Try.prog 170 = 1 := by kernel_rfl
theorem ag170 : isAgg Try.prog 170 = false := by kernel_rfl
theorem ze170 : zero Try.prog 170 = some [V.nilfn] := by kernel_rfl
theorem sz171 : szOf Try.prog 171 = 1 := by kernel_rfl
theorem ag171 : isAgg Try.prog 171 = false := by kernel_rfl
theorem ze171 : zero Try.prog 171 = some [V.nilfn] := by kernel_rfl
theorem sz172 : szOf Try.prog 172 = 1 := by kernel_rfl
theorem ag172 : isAgg Try.prog 172 = false := by kernel_rfl
theorem ze172 : zero Try.prog 172 = some [V.nilfn] := by kernel_rfl
theorem sz173 : szOf Try.prog 173 = 1 := by kernel_rfl
theorem ag173 : isAgg Try.prog 173 = false := by kernel_rfl
theorem ze173 : zero Try.prog 173 = some [V.nilfn] := by kernel_rfl
theorem xa174 (H : Hint) (d : Nat) (ty : TypeId) (ps : Array (Nat × Operand)) (pos : String) (aft : Array Edge) (g : Option (Nat × Bool)) : isX Try.prog H { dst := some d, op := .build 174 ps, type := ty, pos := pos, after := aft, guard := g } = memN d H.arrs := by kernel_rfl
theorem u174 : Try.prog.underlying 174 = some (.array 2 5) := by kernel_rfl
theorem sz174 : szOf Try.prog 174 = 2 := by kernel_rfl
theorem ag174 : isAgg Try.prog 174 = true := by kernel_rfl
theorem eo174 : elemOf Try.prog 174 = 5 := by kernel_rfl
theorem es174 : elemSz Try.prog 174 = 1 := by kernel_rfl
theorem ze174 : zero Try.prog 174 = some [V.int .u8 0, V.int .u8 0] := by kernel_rfl
theorem u175 : Try.prog.underlying 175 = some (.slice 174) := by kernel_rfl
theorem sz175 : szOf Try.prog 175 = 1 := by kernel_rfl
theorem ag175 : isAgg Try.prog 175 = false := by kernel_rfl
theorem eo175 : elemOf Try.prog 175 = 174 := by kernel_rfl
theorem es175 : elemSz Try.prog 175 = 2 := by kernel_rfl
theorem gr175 : growB Try.prog 175 = true := by kernel_rfl
theorem df175 : dflt Try.prog 175 = V.agg [V.int .u8 0, V.int .u8 0] := by kernel_rfl
theorem ze175 : zero Try.prog 175 = some [V.slc true 2 []] := by kernel_rfl
theorem u176 : Try.prog.underlying 176 = some (.slice 5) := by kernel_rfl
theorem sz176 : szOf Try.prog 176 = 1 := by kernel_rfl
theorem ag176 : isAgg Try.prog 176 = false := by kernel_rfl
theorem eo176 : elemOf Try.prog 176 = 5 := by kernel_rfl
theorem es176 : elemSz Try.prog 176 = 1 := by kernel_rfl
theorem gr176 : growB Try.prog 176 = true := by kernel_rfl
theorem df176 : dflt Try.prog 176 = V.int .u8 0 := by kernel_rfl
theorem ze176 : zero Try.prog 176 = some [V.slc true 1 []] := by kernel_rfl
theorem sz177 : szOf Try.prog 177 = 1 := by kernel_rfl
theorem ag177 : isAgg Try.prog 177 = false := by kernel_rfl
theorem ze177 : zero Try.prog 177 = some [V.nilfn] := by kernel_rfl
theorem sz178 : szOf Try.prog 178 = 1 := by kernel_rfl
theorem ag178 : isAgg Try.prog 178 = false := by kernel_rfl
theorem ze178 : zero Try.prog 178 = some [V.nilfn] := by kernel_rfl
theorem sz179 : szOf Try.prog 179 = 1 := by kernel_rfl
theorem ag179 : isAgg Try.prog 179 = false := by kernel_rfl
theorem ze179 : zero Try.prog 179 = some [V.nilfn] := by kernel_rfl
theorem sz180 : szOf Try.prog 180 = 8 := by kernel_rfl
theorem ag180 : isAgg Try.prog 180 = true := by kernel_rfl
theorem ze180 : zero Try.prog 180 = some [V.int .i64 0, V.str ⟨#[]⟩, V.str ⟨#[]⟩, V.int .i64 0, V.str ⟨#[]⟩, V.slc true 3 [], V.slc true 1 [], V.int .i64 0] := by kernel_rfl
theorem la180 : layOf Try.prog 180 = some [(3, 0, 1), (9, 1, 1), (9, 2, 1), (158, 3, 3), (36, 6, 1), (3, 7, 1)] := by kernel_rfl
theorem bd180 (H : Hint) (d : Nat) (ty : TypeId) (ps : Array (Nat × Operand)) (s : St) : evV Try.prog H d ty (.build 180 ps) s = aggO (buildL Try.prog [(3, 0, 1), (9, 1, 1), (9, 2, 1), (158, 3, 3), (36, 6, 1), (3, 7, 1)] s [V.int .i64 0, V.str ⟨#[]⟩, V.str ⟨#[]⟩, V.int .i64 0, V.str ⟨#[]⟩, V.slc true 3 [], V.slc true 1 [], V.int .i64 0] ps.toList) := build_lay la180 ze180
theorem xb180 (H : Hint) (d : Nat) (ty : TypeId) (ps : Array (Nat × Operand)) (pos : String) (aft : Array Edge) (g : Option (Nat × Bool)) : isX Try.prog H { dst := some d, op := .build 180 ps, type := ty, pos := pos, after := aft, guard := g } = !memN d H.arrs := by kernel_rfl
theorem fa180_0 (v : V) : vFieldAddr Try.prog 180 0 v = faddr 0 v := by kernel_rfl
theorem fg180_0 (s : St) (v : V) : vField Try.prog s 180 0 v = fget 0 1 false v := by kernel_rfl
theorem fa180_1 (v : V) : vFieldAddr Try.prog 180 1 v = faddr 1 v := by kernel_rfl
theorem fg180_1 (s : St) (v : V) : vField Try.prog s 180 1 v = fget 1 1 false v := by kernel_rfl
theorem fa180_2 (v : V) : vFieldAddr Try.prog 180 2 v = faddr 2 v := by kernel_rfl
theorem fg180_2 (s : St) (v : V) : vField Try.prog s 180 2 v = fget 2 1 false v := by kernel_rfl
theorem fa180_3 (v : V) : vFieldAddr Try.prog 180 3 v = faddr 3 v := by kernel_rfl
theorem fg180_3 (s : St) (v : V) : vField Try.prog s 180 3 v = fget 3 3 true v := by kernel_rfl
theorem fa180_4 (v : V) : vFieldAddr Try.prog 180 4 v = faddr 6 v := by kernel_rfl
theorem fg180_4 (s : St) (v : V) : vField Try.prog s 180 4 v = fget 6 1 false v := by kernel_rfl
theorem fa180_5 (v : V) : vFieldAddr Try.prog 180 5 v = faddr 7 v := by kernel_rfl
theorem fg180_5 (s : St) (v : V) : vField Try.prog s 180 5 v = fget 7 1 false v := by kernel_rfl
theorem sz181 : szOf Try.prog 181 = 8 := by kernel_rfl
theorem ag181 : isAgg Try.prog 181 = true := by kernel_rfl
theorem ze181 : zero Try.prog 181 = some [V.int .i64 0, V.str ⟨#[]⟩, V.str ⟨#[]⟩, V.int .i64 0, V.str ⟨#[]⟩, V.slc true 3 [], V.slc true 1 [], V.int .i64 0] := by kernel_rfl
theorem la181 : layOf Try.prog 181 = some [(3, 0, 1), (9, 1, 1), (9, 2, 1), (158, 3, 3), (36, 6, 1), (3, 7, 1)] := by kernel_rfl
theorem bd181 (H : Hint) (d : Nat) (ty : TypeId) (ps : Array (Nat × Operand)) (s : St) : evV Try.prog H d ty (.build 181 ps) s = aggO (buildL Try.prog [(3, 0, 1), (9, 1, 1), (9, 2, 1), (158, 3, 3), (36, 6, 1), (3, 7, 1)] s [V.int .i64 0, V.str ⟨#[]⟩, V.str ⟨#[]⟩, V.int .i64 0, V.str ⟨#[]⟩, V.slc true 3 [], V.slc true 1 [], V.int .i64 0] ps.toList) := build_lay la181 ze181
theorem xb181 (H : Hint) (d : Nat) (ty : TypeId) (ps : Array (Nat × Operand)) (pos : String) (aft : Array Edge) (g : Option (Nat × Bool)) : isX Try.prog H { dst := some d, op := .build 181 ps, type := ty, pos := pos, after := aft, guard := g } = !memN d H.arrs := by kernel_rfl
theorem fa181_0 (v : V) : vFieldAddr Try.prog 181 0 v = faddr 0 v := by kernel_rfl
theorem fg181_0 (s : St) (v : V) : vField Try.prog s 181 0 v = fget 0 1 false v := by kernel_rfl
theorem fa181_1 (v : V) : vFieldAddr Try.prog 181 1 v = faddr 1 v := by kernel_rfl
theorem fg181_1 (s : St) (v : V) : vField Try.prog s 181 1 v = fget 1 1 false v := by kernel_rfl
theorem fa181_2 (v : V) : vFieldAddr Try.prog 181 2 v = faddr 2 v := by kernel_rfl
theorem fg181_2 (s : St) (v : V) : vField Try.prog s 181 2 v = fget 2 1 false v := by kernel_rfl
theorem fa181_3 (v : V) : vFieldAddr Try.prog 181 3 v = faddr 3 v := by kernel_rfl
theorem fg181_3 (s : St) (v : V) : vField Try.prog s 181 3 v = fget 3 3 true v := by kernel_rfl
theorem fa181_4 (v : V) : vFieldAddr Try.prog 181 4 v = faddr 6 v := by kernel_rfl
theorem fg181_4 (s : St) (v : V) : vField Try.prog s 181 4 v = fget 6 1 false v := by kernel_rfl
theorem fa181_5 (v : V) : vFieldAddr Try.prog 181 5 v = faddr 7 v := by kernel_rfl
theorem fg181_5 (s : St) (v : V) : vField Try.prog s 181 5 v = fget 7 1 false v := by kernel_rfl
theorem sz182 : szOf Try.prog 182 = 1 := by kernel_rfl
theorem ag182 : isAgg Try.prog 182 = false := by kernel_rfl
theorem ze182 : zero Try.prog 182 = some [V.nilfn] := by kernel_rfl
theorem sz183 : szOf Try.prog 183 = 1 := by kernel_rfl
theorem ag183 : isAgg Try.prog 183 = false := by kernel_rfl
theorem ze183 : zero Try.prog 183 = some [V.nilfn] := by kernel_rfl
theorem sz184 : szOf Try.prog 184 = 1 := by kernel_rfl
theorem ag184 : isAgg Try.prog 184 = false := by kernel_rfl
theorem ze184 : zero Try.prog 184 = some [V.nilfn] := by kernel_rfl
theorem sz185 : szOf Try.prog 185 = 1 := by kernel_rfl
theorem ag185 : isAgg Try.prog 185 = false := by kernel_rfl
theorem ze185 : zero Try.prog 185 = some [V.nilfn] := by kernel_rfl
theorem sz186 : szOf Try.prog 186 = 1 := by kernel_rfl
theorem ag186 : isAgg Try.prog 186 = false := by kernel_rfl
theorem ze186 : zero Try.prog 186 = some [V.nilfn] := by kernel_rfl
theorem sz187 : szOf Try.prog 187 = 1 := by kernel_rfl
theorem ag187 : isAgg Try.prog 187 = false := by kernel_rfl
theorem ze187 : zero Try.prog 187 = some [V.nilfn] := by kernel_rfl
theorem sz188 : szOf Try.prog 188 = 1 := by kernel_rfl
theorem ag188 : isAgg Try.prog 188 = false := by kernel_rfl
theorem ze188 : zero Try.prog 188 = some [V.nilfn] := by kernel_rfl
theorem u189 : Try.prog.underlying 189 = some (.map 3 3) := by kernel_rfl
theorem sz189 : szOf Try.prog 189 = 1 := by kernel_rfl
theorem ag189 : isAgg Try.prog 189 = false := by kernel_rfl
theorem u190 : Try.prog.underlying 190 = some (.map 191 3) := by kernel_rfl
theorem sz190 : szOf Try.prog 190 = 1 := by kernel_rfl
theorem ag190 : isAgg Try.prog 190 = false := by kernel_rfl
theorem xa191 (H : Hint) (d : Nat) (ty : TypeId) (ps : Array (Nat × Operand)) (pos : String) (aft : Array Edge) (g : Option (Nat × Bool)) : isX Try.prog H { dst := some d, op := .build 191 ps, type := ty, pos := pos, after := aft, guard := g } = memN d H.arrs := by kernel_rfl
theorem u191 : Try.prog.underlying 191 = some (.array 4 3) := by kernel_rfl
theorem sz191 : szOf Try.prog 191 = 4 := by kernel_rfl
theorem ag191 : isAgg Try.prog 191 = true := by kernel_rfl
theorem eo191 : elemOf Try.prog 191 = 3 := by kernel_rfl
theorem es191 : elemSz Try.prog 191 = 1 := by kernel_rfl
theorem ze191 : zero Try.prog 191 = some [V.int .i64 0, V.int .i64 0, V.int .i64 0, V.int .i64 0] := by kernel_rfl
theorem sz192 : szOf Try.prog 192 = 1 := by kernel_rfl
theorem ag192 : isAgg Try.prog 192 = false := by kernel_rfl
theorem ze192 : zero Try.prog 192 = some [V.nilfn] := by kernel_rfl
theorem u193 : Try.prog.underlying 193 = some (.slice 9) := by kernel_rfl
theorem sz193 : szOf Try.prog 193 = 1 := by kernel_rfl
theorem ag193 : isAgg Try.prog 193 = false := by kernel_rfl
theorem eo193 : elemOf Try.prog 193 = 9 := by kernel_rfl
theorem es193 : elemSz Try.prog 193 = 1 := by kernel_rfl
theorem gr193 : growB Try.prog 193 = true := by kernel_rfl
theorem df193 : dflt Try.prog 193 = V.str ⟨#[]⟩ := by kernel_rfl
theorem ze193 : zero Try.prog 193 = some [V.slc true 1 []] := by kernel_rfl
theorem sz194 : szOf Try.prog 194 = 1 := by kernel_rfl
theorem ag194 : isAgg Try.prog 194 = false := by kernel_rfl
theorem ze194 : zero Try.prog 194 = some [V.nilfn] := by kernel_rfl
theorem sz195 : szOf Try.prog 195 = 1 := by kernel_rfl
theorem ag195 : isAgg Try.prog 195 = false := by kernel_rfl
theorem ze195 : zero Try.prog 195 = some [V.nilfn] := by kernel_rfl
theorem sz196 : szOf Try.prog 196 = 1 := by kernel_rfl
theorem ag196 : isAgg Try.prog 196 = false := by kernel_rfl
theorem ze196 : zero Try.prog 196 = some [V.nilfn] := by kernel_rfl
theorem sz197 : szOf Try.prog 197 = 1 := by kernel_rfl
theorem ag197 : isAgg Try.prog 197 = false := by kernel_rfl
theorem ze197 : zero Try.prog 197 = some [V.nilfn] := by kernel_rfl
theorem sz198 : szOf Try.prog 198 = 1 := by kernel_rfl
theorem ag198 : isAgg Try.prog 198 = false := by kernel_rfl
theorem ze198 : zero Try.prog 198 = some [V.nilfn] := by kernel_rfl
theorem sz199 : szOf Try.prog 199 = 1 := by kernel_rfl
theorem ag199 : isAgg Try.prog 199 = false := by kernel_rfl
theorem ze199 : zero Try.prog 199 = some [V.nilfn] := by kernel_rfl
theorem sz200 : szOf Try.prog 200 = 1 := by kernel_rfl
theorem ag200 : isAgg Try.prog 200 = false := by kernel_rfl
theorem ze200 : zero Try.prog 200 = some [V.nilfn] := by kernel_rfl
theorem sz201 : szOf Try.prog 201 = 1 := by kernel_rfl
theorem ag201 : isAgg Try.prog 201 = false := by kernel_rfl
theorem ze201 : zero Try.prog 201 = some [V.nilfn] := by kernel_rfl
theorem sz202 : szOf Try.prog 202 = 1 := by kernel_rfl
theorem ag202 : isAgg Try.prog 202 = false := by kernel_rfl
theorem ze202 : zero Try.prog 202 = some [V.nilfn] := by kernel_rfl
theorem sz203 : szOf Try.prog 203 = 1 := by kernel_rfl
theorem ag203 : isAgg Try.prog 203 = false := by kernel_rfl
theorem ze203 : zero Try.prog 203 = some [V.nilfn] := by kernel_rfl
theorem sz204 : szOf Try.prog 204 = 1 := by kernel_rfl
theorem ag204 : isAgg Try.prog 204 = false := by kernel_rfl
theorem ze204 : zero Try.prog 204 = some [V.nilfn] := by kernel_rfl
theorem sz205 : szOf Try.prog 205 = 1 := by kernel_rfl
theorem ag205 : isAgg Try.prog 205 = false := by kernel_rfl
theorem ze205 : zero Try.prog 205 = some [V.nilfn] := by kernel_rfl
theorem sz206 : szOf Try.prog 206 = 1 := by kernel_rfl
theorem ag206 : isAgg Try.prog 206 = false := by kernel_rfl
theorem ze206 : zero Try.prog 206 = some [V.nilfn] := by kernel_rfl
theorem sz207 : szOf Try.prog 207 = 1 := by kernel_rfl
theorem ag207 : isAgg Try.prog 207 = false := by kernel_rfl
theorem ze207 : zero Try.prog 207 = some [V.nilfn] := by kernel_rfl
theorem sz208 : szOf Try.prog 208 = 1 := by kernel_rfl
theorem ag208 : isAgg Try.prog 208 = false := by kernel_rfl
theorem ze208 : zero Try.prog 208 = some [V.nilfn] := by kernel_rfl
theorem sz209 : szOf Try.prog 209 = 1 := by kernel_rfl
theorem ag209 : isAgg Try.prog 209 = false := by kernel_rfl
theorem ze209 : zero Try.prog 209 = some [V.nilfn] := by kernel_rfl
theorem sz210 : szOf Try.prog 210 = 1 := by kernel_rfl
theorem ag210 : isAgg Try.prog 210 = false := by kernel_rfl
theorem ze210 : zero Try.prog 210 = some [V.nilfn] := by kernel_rfl
theorem u211 : Try.prog.underlying 211 = some (.slice 81) := by kernel_rfl
theorem sz211 : szOf Try.prog 211 = 1 := by kernel_rfl
theorem ag211 : isAgg Try.prog 211 = false := by kernel_rfl
theorem eo211 : elemOf Try.prog 211 = 81 := by kernel_rfl
theorem es211 : elemSz Try.prog 211 = 2 := by kernel_rfl
theorem gr211 : growB Try.prog 211 = true := by kernel_rfl
theorem df211 : dflt Try.prog 211 = V.agg [V.slc false 1 [], V.slc false 1 []] := by kernel_rfl
theorem ze211 : zero Try.prog 211 = some [V.slc true 2 []] := by kernel_rfl
theorem sz212 : szOf Try.prog 212 = 1 := by kernel_rfl
theorem ag212 : isAgg Try.prog 212 = false := by kernel_rfl
theorem ze212 : zero Try.prog 212 = some [V.nilfn] := by kernel_rfl
theorem sz213 : szOf Try.prog 213 = 1 := by kernel_rfl
theorem ag213 : isAgg Try.prog 213 = false := by kernel_rfl
theorem ze213 : zero Try.prog 213 = some [V.nilfn] := by kernel_rfl
theorem sz214 : szOf Try.prog 214 = 1 := by kernel_rfl
theorem ag214 : isAgg Try.prog 214 = false := by kernel_rfl
theorem ze214 : zero Try.prog 214 = some [V.nilfn] := by kernel_rfl
theorem sz216 : szOf Try.prog 216 = 1 := by kernel_rfl
theorem ag216 : isAgg Try.prog 216 = false := by kernel_rfl
theorem ze216 : zero Try.prog 216 = some [V.nilfn] := by kernel_rfl
theorem sz217 : szOf Try.prog 217 = 1 := by kernel_rfl
theorem ag217 : isAgg Try.prog 217 = false := by kernel_rfl
theorem ze217 : zero Try.prog 217 = some [V.nilfn] := by kernel_rfl
theorem sz218 : szOf Try.prog 218 = 3 := by kernel_rfl
theorem ag218 : isAgg Try.prog 218 = true := by kernel_rfl
theorem ze218 : zero Try.prog 218 = some [V.int .i64 0, V.slc true 1 [], V.bool false] := by kernel_rfl
theorem la218 : layOf Try.prog 218 = some [(3, 0, 1), (36, 1, 1), (4, 2, 1)] := by kernel_rfl
theorem bd218 (H : Hint) (d : Nat) (ty : TypeId) (ps : Array (Nat × Operand)) (s : St) : evV Try.prog H d ty (.build 218 ps) s = aggO (buildL Try.prog [(3, 0, 1), (36, 1, 1), (4, 2, 1)] s [V.int .i64 0, V.slc true 1 [], V.bool false] ps.toList) := build_lay la218 ze218
theorem xb218 (H : Hint) (d : Nat) (ty : TypeId) (ps : Array (Nat × Operand)) (pos : String) (aft : Array Edge) (g : Option (Nat × Bool)) : isX Try.prog H { dst := some d, op := .build 218 ps, type := ty, pos := pos, after := aft, guard := g } = !memN d H.arrs := by kernel_rfl
theorem fa218_0 (v : V) : vFieldAddr Try.prog 218 0 v = faddr 0 v := by kernel_rfl
theorem fg218_0 (s : St) (v : V) : vField Try.prog s 218 0 v = fget 0 1 false v := by kernel_rfl
theorem fa218_1 (v : V) : vFieldAddr Try.prog 218 1 v = faddr 1 v := by kernel_rfl
theorem fg218_1 (s : St) (v : V) : vField Try.prog s 218 1 v = fget 1 1 false v := by kernel_rfl
theorem fa218_2 (v : V) : vFieldAddr Try.prog 218 2 v = faddr 2 v := by kernel_rfl
theorem fg218_2 (s : St) (v : V) : vField Try.prog s 218 2 v = fget 2 1 false v := by kernel_rfl
theorem sz219 : szOf Try.prog 219 = 3 := by kernel_rfl
theorem ag219 : isAgg Try.prog 219 = true := by kernel_rfl
theorem ze219 : zero Try.prog 219 = some [V.int .i64 0, V.slc true 1 [], V.bool false] := by kernel_rfl
theorem la219 : layOf Try.prog 219 = some [(3, 0, 1), (36, 1, 1), (4, 2, 1)] := by kernel_rfl
theorem bd219 (H : Hint) (d : Nat) (ty : TypeId) (ps : Array (Nat × Operand)) (s : St) : evV Try.prog H d ty (.build 219 ps) s = aggO (buildL Try.prog [(3, 0, 1), (36, 1, 1), (4, 2, 1)] s [V.int .i64 0, V.slc true 1 [], V.bool false] ps.toList) := build_lay la219 ze219
theorem xb219 (H : Hint) (d : Nat) (ty : TypeId) (ps : Array (Nat × Operand)) (pos : String) (aft : Array Edge) (g : Option (Nat × Bool)) : isX Try.prog H { dst := some d, op := .build 219 ps, type := ty, pos := pos, after := aft, guard := g } = !memN d H.arrs := by kernel_rfl
theorem fa219_0 (v : V) : vFieldAddr Try.prog 219 0 v = faddr 0 v := by kernel_rfl
theorem fg219_0 (s : St) (v : V) : vField Try.prog s 219 0 v = fget 0 1 false v := by kernel_rfl
theorem fa219_1 (v : V) : vFieldAddr Try.prog 219 1 v = faddr 1 v := by kernel_rfl
theorem fg219_1 (s : St) (v : V) : vField Try.prog s 219 1 v = fget 1 1 false v := by kernel_rfl
theorem fa219_2 (v : V) : vFieldAddr Try.prog 219 2 v = faddr 2 v := by kernel_rfl
theorem fg219_2 (s : St) (v : V) : vField Try.prog s 219 2 v = fget 2 1 false v := by kernel_rfl
theorem u220 : Try.prog.underlying 220 = some (.slice 219) := by kernel_rfl
theorem sz220 : szOf Try.prog 220 = 1 := by kernel_rfl
theorem ag220 : isAgg Try.prog 220 = false := by kernel_rfl
theorem eo220 : elemOf Try.prog 220 = 219 := by kernel_rfl
theorem es220 : elemSz Try.prog 220 = 3 := by kernel_rfl
theorem gr220 : growB Try.prog 220 = true := by kernel_rfl
theorem df220 : dflt Try.prog 220 = V.agg [V.int .i64 0, V.slc false 1 [], V.bool false] := by kernel_rfl
theorem ze220 : zero Try.prog 220 = some [V.slc true 3 []] := by kernel_rfl
theorem sz221 : szOf Try.prog 221 = 1 := by kernel_rfl
theorem ag221 : isAgg Try.prog 221 = false := by kernel_rfl
theorem ze221 : zero Try.prog 221 = some [V.nilfn] := by kernel_rfl
theorem sz222 : szOf Try.prog 222 = 1 := by kernel_rfl
theorem ag222 : isAgg Try.prog 222 = false := by kernel_rfl
theorem ze222 : zero Try.prog 222 = some [V.nilfn] := by kernel_rfl
theorem sz223 : szOf Try.prog 223 = 1 := by kernel_rfl
theorem ag223 : isAgg Try.prog 223 = false := by kernel_rfl
theorem ze223 : zero Try.prog 223 = some [V.nilfn] := by kernel_rfl
theorem sz224 : szOf Try.prog 224 = 1 := by kernel_rfl
theorem ag224 : isAgg Try.prog 224 = false := by kernel_rfl
theorem ze224 : zero Try.prog 224 = some [V.nilfn] := by kernel_rfl
theorem u225 : Try.prog.underlying 225 = some (.int .u64) := by kernel_rfl
theorem sz225 : szOf Try.prog 225 = 1 := by kernel_rfl
theorem ag225 : isAgg Try.prog 225 = false := by kernel_rfl
theorem ze225 : zero Try.prog 225 = some [V.int .u64 0] := by kernel_rfl
theorem sz226 : szOf Try.prog 226 = 2 := by kernel_rfl
theorem ag226 : isAgg Try.prog 226 = true := by kernel_rfl
theorem ze226 : zero Try.prog 226 = some [V.int .i64 0, V.int .u64 0] := by kernel_rfl
theorem la226 : layOf Try.prog 226 = some [(3, 0, 1), (225, 1, 1)] := by kernel_rfl
theorem bd226 (H : Hint) (d : Nat) (ty : TypeId) (ps : Array (Nat × Operand)) (s : St) : evV Try.prog H d ty (.build 226 ps) s = aggO (buildL Try.prog [(3, 0, 1), (225, 1, 1)] s [V.int .i64 0, V.int .u64 0] ps.toList) := build_lay la226 ze226
theorem xb226 (H : Hint) (d : Nat) (ty : TypeId) (ps : Array (Nat × Operand)) (pos : String) (aft : Array Edge) (g : Option (Nat × Bool)) : isX Try.prog H { dst := some d, op := .build 226 ps, type := ty, pos := pos, after := aft, guard := g } = !memN d H.arrs := by kernel_rfl
theorem fa226_0 (v : V) : vFieldAddr Try.prog 226 0 v = faddr 0 v := by kernel_rfl
theorem fg226_0 (s : St) (v : V) : vField Try.prog s 226 0 v = fget 0 1 false v := by kernel_rfl
theorem fa226_1 (v : V) : vFieldAddr Try.prog 226 1 v = faddr 1 v := by kernel_rfl
theorem fg226_1 (s : St) (v : V) : vField Try.prog s 226 1 v = fget 1 1 false v := by kernel_rfl
theorem ev226 (x0 y0 : Int) (x1 y1 : Int) : eqV Try.prog 226 (.agg [V.int .i64 x0, V.int .u64 x1]) (.agg [V.int .i64 y0, V.int .u64 y1]) = some ((x0 == y0) && ((x1 == y1) && true)) := by kernel_rfl
theorem eg226 : Try.prog.eqGuardType Try.prog.depth 226 = false := by kernel_rfl
theorem sz227 : szOf Try.prog 227 = 2 := by kernel_rfl
theorem ag227 : isAgg Try.prog 227 = true := by kernel_rfl
theorem ze227 : zero Try.prog 227 = some [V.int .i64 0, V.int .u64 0] := by kernel_rfl
theorem la227 : layOf Try.prog 227 = some [(3, 0, 1), (225, 1, 1)] := by kernel_rfl
theorem bd227 (H : Hint) (d : Nat) (ty : TypeId) (ps : Array (Nat × Operand)) (s : St) : evV Try.prog H d ty (.build 227 ps) s = aggO (buildL Try.prog [(3, 0, 1), (225, 1, 1)] s [V.int .i64 0, V.int .u64 0] ps.toList) := build_lay la227 ze227
theorem xb227 (H : Hint) (d : Nat) (ty : TypeId) (ps : Array (Nat × Operand)) (pos : String) (aft : Array Edge) (g : Option (Nat × Bool)) : isX Try.prog H { dst := some d, op := .build 227 ps, type := ty, pos := pos, after := aft, guard := g } = !memN d H.arrs := by kernel_rfl
theorem fa227_0 (v : V) : vFieldAddr Try.prog 227 0 v = faddr 0 v := by kernel_rfl
theorem fg227_0 (s : St) (v : V) : vField Try.prog s 227 0 v = fget 0 1 false v := by kernel_rfl
theorem fa227_1 (v : V) : vFieldAddr Try.prog 227 1 v = faddr 1 v := by kernel_rfl
theorem fg227_1 (s : St) (v : V) : vField Try.prog s 227 1 v = fget 1 1 false v := by kernel_rfl
theorem ev227 (x0 y0 : Int) (x1 y1 : Int) : eqV Try.prog 227 (.agg [V.int .i64 x0, V.int .u64 x1]) (.agg [V.int .i64 y0, V.int .u64 y1]) = some ((x0 == y0) && ((x1 == y1) && true)) := by kernel_rfl
theorem eg227 : Try.prog.eqGuardType Try.prog.depth 227 = false := by kernel_rfl
theorem sz228 : szOf Try.prog 228 = 1 := by kernel_rfl
theorem ag228 : isAgg Try.prog 228 = false := by kernel_rfl
theorem ze228 : zero Try.prog 228 = some [V.nilfn] := by kernel_rfl
theorem u229 : Try.prog.underlying 229 = some (.slice 227) := by kernel_rfl
theorem sz229 : szOf Try.prog 229 = 1 := by kernel_rfl
theorem ag229 : isAgg Try.prog 229 = false := by kernel_rfl
theorem eo229 : elemOf Try.prog 229 = 227 := by kernel_rfl
theorem es229 : elemSz Try.prog 229 = 2 := by kernel_rfl
theorem gr229 : growB Try.prog 229 = true := by kernel_rfl
theorem df229 : dflt Try.prog 229 = V.agg [V.int .i64 0, V.int .u64 0] := by kernel_rfl
theorem ze229 : zero Try.prog 229 = some [V.slc true 2 []] := by kernel_rfl
theorem sz231 : szOf Try.prog 231 = 1 := by kernel_rfl
theorem ag231 : isAgg Try.prog 231 = false := by kernel_rfl
theorem ze231 : zero Try.prog 231 = some [V.nilfn] := by kernel_rfl
theorem sz232 : szOf Try.prog 232 = 1 := by kernel_rfl
theorem ag232 : isAgg Try.prog 232 = false := by kernel_rfl
theorem ze232 : zero Try.prog 232 = some [V.nilfn] := by kernel_rfl
theorem sz233 : szOf Try.prog 233 = 1 := by kernel_rfl
theorem ag233 : isAgg Try.prog 233 = false := by kernel_rfl
theorem ze233 : zero Try.prog 233 = some [V.nilfn] := by kernel_rfl
theorem sz234 : szOf Try.prog 234 = 1 := by kernel_rfl
theorem ag234 : isAgg Try.prog 234 = false := by kernel_rfl
theorem ze234 : zero Try.prog 234 = some [V.nilfn] := by kernel_rfl
theorem sz235 : szOf Try.prog 235 = 1 := by kernel_rfl
theorem ag235 : isAgg Try.prog 235 = false := by kernel_rfl
theorem ze235 : zero Try.prog 235 = some [V.nilfn] := by kernel_rfl
theorem u236 : Try.prog.underlying 236 = some (.slice 239) := by kernel_rfl
theorem sz236 : szOf Try.prog 236 = 1 := by kernel_rfl
theorem ag236 : isAgg Try.prog 236 = false := by kernel_rfl
theorem eo236 : elemOf Try.prog 236 = 239 := by kernel_rfl
theorem es236 : elemSz Try.prog 236 = 2 := by kernel_rfl
theorem gr236 : growB Try.prog 236 = true := by kernel_rfl
theorem df236 : dflt Try.prog 236 = V.agg [V.int .i64 0, V.int .i64 0] := by kernel_rfl
theorem ze236 : zero Try.prog 236 = some [V.slc true 2 []] := by kernel_rfl
theorem sz238 : szOf Try.prog 238 = 1 := by kernel_rfl
theorem ag238 : isAgg Try.prog 238 = false := by kernel_rfl
theorem ze238 : zero Try.prog 238 = some [V.nilfn] := by kernel_rfl
theorem xa239 (H : Hint) (d : Nat) (ty : TypeId) (ps : Array (Nat × Operand)) (pos : String) (aft : Array Edge) (g : Option (Nat × Bool)) : isX Try.prog H { dst := some d, op := .build 239 ps, type := ty, pos := pos, after := aft, guard := g } = memN d H.arrs := by kernel_rfl
theorem u239 : Try.prog.underlying 239 = some (.array 2 3) := by kernel_rfl
theorem sz239 : szOf Try.prog 239 = 2 := by kernel_rfl
theorem ag239 : isAgg Try.prog 239 = true := by kernel_rfl
theorem eo239 : elemOf Try.prog 239 = 3 := by kernel_rfl
theorem es239 : elemSz Try.prog 239 = 1 := by kernel_rfl
theorem ze239 : zero Try.prog 239 = some [V.int .i64 0, V.int .i64 0] := by kernel_rfl
theorem sz240 : szOf Try.prog 240 = 1 := by kernel_rfl
theorem ag240 : isAgg Try.prog 240 = false := by kernel_rfl
theorem ze240 : zero Try.prog 240 = some [V.nilfn] := by kernel_rfl
theorem sz241 : szOf Try.prog 241 = 1 := by kernel_rfl
theorem ag241 : isAgg Try.prog 241 = false := by kernel_rfl
theorem ze241 : zero Try.prog 241 = some [V.nilfn] := by kernel_rfl
theorem u242 : Try.prog.underlying 242 = some (.map 227 3) := by kernel_rfl
theorem sz242 : szOf Try.prog 242 = 1 := by kernel_rfl
theorem ag242 : isAgg Try.prog 242 = false := by kernel_rfl
theorem u243 : Try.prog.underlying 243 = some (.map 239 3) := by kernel_rfl
theorem sz243 : szOf Try.prog 243 = 1 := by kernel_rfl
theorem ag243 : isAgg Try.prog 243 = false := by kernel_rfl
theorem sz244 : szOf Try.prog 244 = 1 := by kernel_rfl
theorem ag244 : isAgg Try.prog 244 = false := by kernel_rfl
theorem ze244 : zero Try.prog 244 = some [V.nilfn] := by kernel_rfl
theorem sz245 : szOf Try.prog 245 = 4 := by kernel_rfl
theorem ag245 : isAgg Try.prog 245 = true := by kernel_rfl
theorem ze245 : zero Try.prog 245 = some [V.nilp, V.nilp, V.nilp, V.str ⟨#[]⟩] := by kernel_rfl
theorem la245 : layOf Try.prog 245 = some [(17, 0, 1), (17, 1, 1), (17, 2, 1), (9, 3, 1)] := by kernel_rfl
theorem bd245 (H : Hint) (d : Nat) (ty : TypeId) (ps : Array (Nat × Operand)) (s : St) : evV Try.prog H d ty (.build 245 ps) s = aggO (buildL Try.prog [(17, 0, 1), (17, 1, 1), (17, 2, 1), (9, 3, 1)] s [V.nilp, V.nilp, V.nilp, V.str ⟨#[]⟩] ps.toList) := build_lay la245 ze245
theorem xb245 (H : Hint) (d : Nat) (ty : TypeId) (ps : Array (Nat × Operand)) (pos : String) (aft : Array Edge) (g : Option (Nat × Bool)) : isX Try.prog H { dst := some d, op := .build 245 ps, type := ty, pos := pos, after := aft, guard := g } = !memN d H.arrs := by kernel_rfl
theorem fa245_0 (v : V) : vFieldAddr Try.prog 245 0 v = faddr 0 v := by kernel_rfl
theorem fg245_0 (s : St) (v : V) : vField Try.prog s 245 0 v = fget 0 1 false v := by kernel_rfl
theorem fa245_1 (v : V) : vFieldAddr Try.prog 245 1 v = faddr 1 v := by kernel_rfl
theorem fg245_1 (s : St) (v : V) : vField Try.prog s 245 1 v = fget 1 1 false v := by kernel_rfl
theorem fa245_2 (v : V) : vFieldAddr Try.prog 245 2 v = faddr 2 v := by kernel_rfl
theorem fg245_2 (s : St) (v : V) : vField Try.prog s 245 2 v = fget 2 1 false v := by kernel_rfl
theorem fa245_3 (v : V) : vFieldAddr Try.prog 245 3 v = faddr 3 v := by kernel_rfl
theorem fg245_3 (s : St) (v : V) : vField Try.prog s 245 3 v = fget 3 1 false v := by kernel_rfl
theorem sz246 : szOf Try.prog 246 = 4 := by kernel_rfl
theorem ag246 : isAgg Try.prog 246 = true := by kernel_rfl
theorem ze246 : zero Try.prog 246 = some [V.nilp, V.nilp, V.nilp, V.str ⟨#[]⟩] := by kernel_rfl
theorem la246 : layOf Try.prog 246 = some [(17, 0, 1), (17, 1, 1), (17, 2, 1), (9, 3, 1)] := by kernel_rfl
theorem bd246 (H : Hint) (d : Nat) (ty : TypeId) (ps : Array (Nat × Operand)) (s : St) : evV Try.prog H d ty (.build 246 ps) s = aggO (buildL Try.prog [(17, 0, 1), (17, 1, 1), (17, 2, 1), (9, 3, 1)] s [V.nilp, V.nilp, V.nilp, V.str ⟨#[]⟩] ps.toList) := build_lay la246 ze246
theorem xb246 (H : Hint) (d : Nat) (ty : TypeId) (ps : Array (Nat × Operand)) (pos : String) (aft : Array Edge) (g : Option (Nat × Bool)) : isX Try.prog H { dst := some d, op := .build 246 ps, type := ty, pos := pos, after := aft, guard := g } = !memN d H.arrs := by kernel_rfl
theorem fa246_0 (v : V) : vFieldAddr Try.prog 246 0 v = faddr 0 v := by kernel_rfl
theorem fg246_0 (s : St) (v : V) : vField Try.prog s 246 0 v = fget 0 1 false v := by kernel_rfl
theorem fa246_1 (v : V) : vFieldAddr Try.prog 246 1 v = faddr 1 v := by kernel_rfl
theorem fg246_1 (s : St) (v : V) : vField Try.prog s 246 1 v = fget 1 1 false v := by kernel_rfl
theorem fa246_2 (v : V) : vFieldAddr Try.prog 246 2 v = faddr 2 v := by kernel_rfl
theorem fg246_2 (s : St) (v : V) : vField Try.prog s 246 2 v = fget 2 1 false v := by kernel_rfl
theorem fa246_3 (v : V) : vFieldAddr Try.prog 246 3 v = faddr 3 v := by kernel_rfl
theorem fg246_3 (s : St) (v : V) : vField Try.prog s 246 3 v = fget 3 1 false v := by kernel_rfl
theorem xa247 (H : Hint) (d : Nat) (ty : TypeId) (ps : Array (Nat × Operand)) (pos : String) (aft : Array Edge) (g : Option (Nat × Bool)) : isX Try.prog H { dst := some d, op := .build 247 ps, type := ty, pos := pos, after := aft, guard := g } = memN d H.arrs := by kernel_rfl
theorem u247 : Try.prog.underlying 247 = some (.array 0 16) := by kernel_rfl
theorem sz247 : szOf Try.prog 247 = 0 := by kernel_rfl
theorem ag247 : isAgg Try.prog 247 = true := by kernel_rfl
theorem eo247 : elemOf Try.prog 247 = 16 := by kernel_rfl
theorem es247 : elemSz Try.prog 247 = 1 := by kernel_rfl
theorem ze247 : zero Try.prog 247 = some [] := by kernel_rfl
theorem sz248 : szOf Try.prog 248 = 0 := by kernel_rfl
theorem ag248 : isAgg Try.prog 248 = true := by kernel_rfl
theorem ze248 : zero Try.prog 248 = some [] := by kernel_rfl
theorem sz249 : szOf Try.prog 249 = 0 := by kernel_rfl
theorem ag249 : isAgg Try.prog 249 = true := by kernel_rfl
theorem ze249 : zero Try.prog 249 = some [] := by kernel_rfl
theorem sz250 : szOf Try.prog 250 = 1 := by kernel_rfl
theorem ag250 : isAgg Try.prog 250 = false := by kernel_rfl
theorem ze250 : zero Try.prog 250 = some [V.nilfn] := by kernel_rfl
theorem u251 : Try.prog.underlying 251 = some (.int .u32) := by kernel_rfl
theorem sz251 : szOf Try.prog 251 = 1 := by kernel_rfl
theorem ag251 : isAgg Try.prog 251 = false := by kernel_rfl
theorem ze251 : zero Try.prog 251 = some [V.int .u32 0] := by kernel_rfl
theorem u252 : Try.prog.underlying 252 = some (.int .u8) := by kernel_rfl
theorem sz252 : szOf Try.prog 252 = 1 := by kernel_rfl
theorem ag252 : isAgg Try.prog 252 = false := by kernel_rfl
theorem ze252 : zero Try.prog 252 = some [V.int .u8 0] := by kernel_rfl
theorem u253 : Try.prog.underlying 253 = some (.int .u8) := by kernel_rfl
theorem sz253 : szOf Try.prog 253 = 1 := by kernel_rfl
theorem ag253 : isAgg Try.prog 253 = false := by kernel_rfl
theorem ze253 : zero Try.prog 253 = some [V.int .u8 0] := by kernel_rfl
theorem sz254 : szOf Try.prog 254 = 1 := by kernel_rfl
theorem ag254 : isAgg Try.prog 254 = false := by kernel_rfl
theorem ze254 : zero Try.prog 254 = some [V.nilfn] := by kernel_rfl
theorem u255 : Try.prog.underlying 255 = some (.pointer 5) := by kernel_rfl
theorem sz255 : szOf Try.prog 255 = 1 := by kernel_rfl
theorem ag255 : isAgg Try.prog 255 = false := by kernel_rfl
theorem ze255 : zero Try.prog 255 = some [V.nilp] := by kernel_rfl
theorem u256 : Try.prog.underlying 256 = some (.int .i32) := by kernel_rfl
theorem sz256 : szOf Try.prog 256 = 1 := by kernel_rfl
theorem ag256 : isAgg Try.prog 256 = false := by kernel_rfl
theorem ze256 : zero Try.prog 256 = some [V.int .i32 0] := by kernel_rfl
theorem u257 : Try.prog.underlying 257 = some (.int .i32) := by kernel_rfl
theorem sz257 : szOf Try.prog 257 = 1 := by kernel_rfl
theorem ag257 : isAgg Try.prog 257 = false := by kernel_rfl
theorem ze257 : zero Try.prog 257 = some [V.int .i32 0] := by kernel_rfl
theorem sz258 : szOf Try.prog 258 = 11 := by kernel_rfl
theorem ag258 : isAgg Try.prog 258 = true := by kernel_rfl
theorem ze258 : zero Try.prog 258 = some [V.int .u64 0, V.int .u64 0, V.int .u32 0, V.int .u8 0, V.int .u8 0, V.int .u8 0, V.int .u8 0, V.nilfn, V.nilp, V.int .i32 0, V.int .i32 0] := by kernel_rfl
theorem la258 : layOf Try.prog 258 = some [(12, 0, 1), (12, 1, 1), (251, 2, 1), (252, 3, 1), (5, 4, 1), (5, 5, 1), (253, 6, 1), (254, 7, 1), (255, 8, 1), (256, 9, 1), (257, 10, 1)] := by kernel_rfl
theorem bd258 (H : Hint) (d : Nat) (ty : TypeId) (ps : Array (Nat × Operand)) (s : St) : evV Try.prog H d ty (.build 258 ps) s = aggO (buildL Try.prog [(12, 0, 1), (12, 1, 1), (251, 2, 1), (252, 3, 1), (5, 4, 1), (5, 5, 1), (253, 6, 1), (254, 7, 1), (255, 8, 1), (256, 9, 1), (257, 10, 1)] s [V.int .u64 0, V.int .u64 0, V.int .u32 0, V.int .u8 0, V.int .u8 0, V.int .u8 0, V.int .u8 0, V.nilfn, V.nilp, V.int .i32 0, V.int .i32 0] ps.toList) := build_lay la258 ze258
theorem xb258 (H : Hint) (d : Nat) (ty : TypeId) (ps : Array (Nat × Operand)) (pos : String) (aft : Array Edge) (g : Option (Nat × Bool)) : isX Try.prog H { dst := some d, op := .build 258 ps, type := ty, pos := pos, after := aft, guard := g } = !memN d H.arrs := by kernel_rfl
theorem fa258_0 (v : V) : vFieldAddr Try.prog 258 0 v = faddr 0 v := by kernel_rfl
theorem fg258_0 (s : St) (v : V) : vField Try.prog s 258 0 v = fget 0 1 false v := by kernel_rfl
theorem fa258_1 (v : V) : vFieldAddr Try.prog 258 1 v = faddr 1 v := by kernel_rfl
theorem fg258_1 (s : St) (v : V) : vField Try.prog s 258 1 v = fget 1 1 false v := by kernel_rfl
theorem fa258_2 (v : V) : vFieldAddr Try.prog 258 2 v = faddr 2 v := by kernel_rfl
theorem fg258_2 (s : St) (v : V) : vField Try.prog s 258 2 v = fget 2 1 false v := by kernel_rfl
theorem fa258_3 (v : V) : vFieldAddr Try.prog 258 3 v = faddr 3 v := by kernel_rfl
theorem fg258_3 (s : St) (v : V) : vField Try.prog s 258 3 v = fget 3 1 false v := by kernel_rfl
theorem fa258_4 (v : V) : vFieldAddr Try.prog 258 4 v = faddr 4 v := by kernel_rfl
theorem fg258_4 (s : St) (v : V) : vField Try.prog s 258 4 v = fget 4 1 false v := by kernel_rfl
theorem fa258_5 (v : V) : vFieldAddr Try.prog 258 5 v = faddr 5 v := by kernel_rfl
theorem fg258_5 (s : St) (v : V) : vField Try.prog s 258 5 v = fget 5 1 false v := by kernel_rfl
theorem fa258_6 (v : V) : vFieldAddr Try.prog 258 6 v = faddr 6 v := by kernel_rfl
theorem fg258_6 (s : St) (v : V) : vField Try.prog s 258 6 v = fget 6 1 false v := by kernel_rfl
theorem fa258_7 (v : V) : vFieldAddr Try.prog 258 7 v = faddr 7 v := by kernel_rfl
theorem fg258_7 (s : St) (v : V) : vField Try.prog s 258 7 v = fget 7 1 false v := by kernel_rfl
theorem fa258_8 (v : V) : vFieldAddr Try.prog 258 8 v = faddr 8 v := by kernel_rfl
theorem fg258_8 (s : St) (v : V) : vField Try.prog s 258 8 v = fget 8 1 false v := by kernel_rfl
theorem fa258_9 (v : V) : vFieldAddr Try.prog 258 9 v = faddr 9 v := by kernel_rfl
theorem fg258_9 (s : St) (v : V) : vField Try.prog s 258 9 v = fget 9 1 false v := by kernel_rfl
theorem fa258_10 (v : V) : vFieldAddr Try.prog 258 10 v = faddr 10 v := by kernel_rfl
theorem fg258_10 (s : St) (v : V) : vField Try.prog s 258 10 v = fget 10 1 false v := by kernel_rfl
theorem sz259 : szOf Try.prog 259 = 11 := by kernel_rfl
theorem ag259 : isAgg Try.prog 259 = true := by kernel_rfl
theorem ze259 : zero Try.prog 259 = some [V.int .u64 0, V.int .u64 0, V.int .u32 0, V.int .u8 0, V.int .u8 0, V.int .u8 0, V.int .u8 0, V.nilfn, V.nilp, V.int .i32 0, V.int .i32 0] := by kernel_rfl
theorem la259 : layOf Try.prog 259 = some [(12, 0, 1), (12, 1, 1), (251, 2, 1), (252, 3, 1), (5, 4, 1), (5, 5, 1), (253, 6, 1), (254, 7, 1), (255, 8, 1), (256, 9, 1), (257, 10, 1)] := by kernel_rfl
theorem bd259 (H : Hint) (d : Nat) (ty : TypeId) (ps : Array (Nat × Operand)) (s : St) : evV Try.prog H d ty (.build 259 ps) s = aggO (buildL Try.prog [(12, 0, 1), (12, 1, 1), (251, 2, 1), (252, 3, 1), (5, 4, 1), (5, 5, 1), (253, 6, 1), (254, 7, 1), (255, 8, 1), (256, 9, 1), (257, 10, 1)] s [V.int .u64 0, V.int .u64 0, V.int .u32 0, V.int .u8 0, V.int .u8 0, V.int .u8 0, V.int .u8 0, V.nilfn, V.nilp, V.int .i32 0, V.int .i32 0] ps.toList) := build_lay la259 ze259
theorem xb259 (H : Hint) (d : Nat) (ty : TypeId) (ps : Array (Nat × Operand)) (pos : String) (aft : Array Edge) (g : Option (Nat × Bool)) : isX Try.prog H { dst := some d, op := .build 259 ps, type := ty, pos := pos, after := aft, guard := g } = !memN d H.arrs := by kernel_rfl
theorem fa259_0 (v : V) : vFieldAddr Try.prog 259 0 v = faddr 0 v := by kernel_rfl
theorem fg259_0 (s : St) (v : V) : vField Try.prog s 259 0 v = fget 0 1 false v := by kernel_rfl
theorem fa259_1 (v : V) : vFieldAddr Try.prog 259 1 v = faddr 1 v := by kernel_rfl
theorem fg259_1 (s : St) (v : V) : vField Try.prog s 259 1 v = fget 1 1 false v := by kernel_rfl
theorem fa259_2 (v : V) : vFieldAddr Try.prog 259 2 v = faddr 2 v := by kernel_rfl
theorem fg259_2 (s : St) (v : V) : vField Try.prog s 259 2 v = fget 2 1 false v := by kernel_rfl
theorem fa259_3 (v : V) : vFieldAddr Try.prog 259 3 v = faddr 3 v := by kernel_rfl
theorem fg259_3 (s : St) (v : V) : vField Try.prog s 259 3 v = fget 3 1 false v := by kernel_rfl
theorem fa259_4 (v : V) : vFieldAddr Try.prog 259 4 v = faddr 4 v := by kernel_rfl
theorem fg259_4 (s : St) (v : V) : vField Try.prog s 259 4 v = fget 4 1 false v := by kernel_rfl
theorem fa259_5 (v : V) : vFieldAddr Try.prog 259 5 v = faddr 5 v := by kernel_rfl
theorem fg259_5 (s : St) (v : V) : vField Try.prog s 259 5 v = fget 5 1 false v := by kernel_rfl
theorem fa259_6 (v : V) : vFieldAddr Try.prog 259 6 v = faddr 6 v := by kernel_rfl
theorem fg259_6 (s : St) (v : V) : vField Try.prog s 259 6 v = fget 6 1 false v := by kernel_rfl
theorem fa259_7 (v : V) : vFieldAddr Try.prog 259 7 v = faddr 7 v := by kernel_rfl
theorem fg259_7 (s : St) (v : V) : vField Try.prog s 259 7 v = fget 7 1 false v := by kernel_rfl
theorem fa259_8 (v : V) : vFieldAddr Try.prog 259 8 v = faddr 8 v := by kernel_rfl
theorem fg259_8 (s : St) (v : V) : vField Try.prog s 259 8 v = fget 8 1 false v := by kernel_rfl
theorem fa259_9 (v : V) : vFieldAddr Try.prog 259 9 v = faddr 9 v := by kernel_rfl
theorem fg259_9 (s : St) (v : V) : vField Try.prog s 259 9 v = fget 9 1 false v := by kernel_rfl
theorem fa259_10 (v : V) : vFieldAddr Try.prog 259 10 v = faddr 10 v := by kernel_rfl
theorem fg259_10 (s : St) (v : V) : vField Try.prog s 259 10 v = fget 10 1 false v := by kernel_rfl
theorem ev3 (x y : Int) : eqV Try.prog 3 (.int .i64 x) (.int .i64 y) = some (x == y) := by kernel_rfl
theorem ev191 (x0 y0 x1 y1 x2 y2 x3 y3 : Int) : eqV Try.prog 191 (.agg [V.int .i64 x0, V.int .i64 x1, V.int .i64 x2, V.int .i64 x3]) (.agg [V.int .i64 y0, V.int .i64 y1, V.int .i64 y2, V.int .i64 y3]) = some ((x0 == y0) && ((x1 == y1) && ((x2 == y2) && ((x3 == y3) && true)))) := by kernel_rfl
theorem ev239 (x0 y0 x1 y1 : Int) : eqV Try.prog 239 (.agg [V.int .i64 x0, V.int .i64 x1]) (.agg [V.int .i64 y0, V.int .i64 y1]) = some ((x0 == y0) && ((x1 == y1) && true)) := by kernel_rfl
theorem by3 : (Try.prog.bytesOf 3) = 8 := by kernel_rfl
theorem by4 : (Try.prog.bytesOf 4) = 1 := by kernel_rfl
theorem by5 : (Try.prog.bytesOf 5) = 1 := by kernel_rfl
theorem by9 : (Try.prog.bytesOf 9) = 16 := by kernel_rfl
theorem by36 : (Try.prog.bytesOf 36) = 24 := by kernel_rfl
theorem by81 : (Try.prog.bytesOf 81) = 48 := by kernel_rfl
theorem by99 : (Try.prog.bytesOf 99) = 48 := by kernel_rfl
theorem by101 : (Try.prog.bytesOf 101) = 120 := by kernel_rfl
theorem by113 : (Try.prog.bytesOf 113) = 24 := by kernel_rfl
theorem by116 : (Try.prog.bytesOf 116) = 80 := by kernel_rfl
theorem by138 : (Try.prog.bytesOf 138) = 120 := by kernel_rfl
theorem by158 : (Try.prog.bytesOf 158) = 48 := by kernel_rfl
theorem by160 : (Try.prog.bytesOf 160) = 120 := by kernel_rfl
theorem by174 : (Try.prog.bytesOf 174) = 2 := by kernel_rfl
theorem by181 : (Try.prog.bytesOf 181) = 120 := by kernel_rfl
theorem by219 : (Try.prog.bytesOf 219) = 40 := by kernel_rfl
theorem by227 : (Try.prog.bytesOf 227) = 16 := by kernel_rfl
theorem by239 : (Try.prog.bytesOf 239) = 16 := by kernel_rfl
attribute [go_sem] sz1 ag1 ze1 u2 sz2 ag2 ze2 u3 sz3 ag3 ze3 u4 sz4 ag4 ze4 ev4 u5 sz5 ag5 ze5 u6 sz6 ag6 ze6 sz7 ag7 ze7 fa7_0 fg7_0 fa7_1 fg7_1 fa7_2 fg7_2 fa7_3 fg7_3 sz8 ag8 ze8 fa8_0 fg8_0 fa8_1 fg8_1 fa8_2 fg8_2 fa8_3 fg8_3 u9 sz9 ag9 ze9 u10 sz10 ag10 ze10 u11 sz11 ag11 ze11 u12 sz12 ag12 ze12 sz13 ag13 ze13 fa13_0 fg13_0 fa13_1 fg13_1 sz14 ag14 ze14 fa14_0 fg14_0 fa14_1 fg14_1 u15 sz15 ag15 ze15 u16 sz16 ag16 ze16 u17 sz17 ag17 ze17 sz18 ag18 ze18 fa18_0 fg18_0 sz19 ag19 ze19 fa19_0 fg19_0 u21 sz21 ag21 ze21 u22 sz22 ag22 eo22 es22 gr22 df22 ze22 sz23 ag23 ze23 fa23_0 fg23_0 sz24 ag24 ze24 fa24_0 fg24_0 sz25 ag25 ze25 sz26 ag26 ze26 u27 sz27 ag27 eo27 es27 gr27 df27 ze27 sz28 ag28 ze28 fa28_0 fg28_0 sz29 ag29 ze29 fa29_0 fg29_0 sz30 ag30 ze30 sz31 ag31 ze31 sz32 ag32 ze32 sz33 ag33 ze33 fa33_0 fg33_0 fa33_1 fg33_1 sz34 ag34 ze34 fa34_0 fg34_0 fa34_1 fg34_1 ev34 eg34 u35 sz35 ag35 eo35 es35 gr35 df35 ze35 u36 sz36 ag36 eo36 es36 gr36 df36 ze36 sz37 ag37 ze37 fa37_0 fg37_0 fa37_1 fg37_1 fa37_2 fg37_2 sz38 ag38 ze38 fa38_0 fg38_0 fa38_1 fg38_1 fa38_2 fg38_2 sz39 ag39 ze39 fa39_0 fg39_0 fa39_1 fg39_1 fa39_2 fg39_2 sz40 ag40 ze40 fa40_0 fg40_0 fa40_1 fg40_1 fa40_2 fg40_2 sz41 ag41 ze41 fa41_0 fg41_0 fa41_1 fg41_1 fa41_2 fg41_2 sz42 ag42 ze42 fa42_0 fg42_0 fa42_1 fg42_1 fa42_2 fg42_2 sz43 ag43 ze43 sz44 ag44 ze44 u45 sz45 ag45 eo45 es45 gr45 df45 ze45 sz46 ag46 ze46 sz47 ag47 ze47 fa47_0 fg47_0 fa47_1 fg47_1 ev47 eg47 sz48 ag48 ze48 fa48_0 fg48_0 fa48_1 fg48_1 fa48_2 fg48_2 sz49 ag49 ze49 fa49_0 fg49_0 fa49_1 fg49_1 fa49_2 fg49_2 sz50 ag50 ze50 fa50_0 fg50_0 fa50_1 fg50_1 fa50_2 fg50_2 sz51 ag51 ze51 sz52 ag52 ze52 fa52_0 fg52_0 fa52_1 fg52_1 fa52_2 fg52_2 sz53 ag53 ze53 sz54 ag54 ze54 sz55 ag55 ze55 sz56 ag56 ze56 sz57 ag57 ze57 sz58 ag58 ze58 sz59 ag59 ze59 sz60 ag60 ze60 u61 sz61 ag61 eo61 es61 gr61 df61 ze61 sz62 ag62 ze62 fa62_0 fg62_0 sz63 ag63 ze63 fa63_0 fg63_0 sz64 ag64 ze64 u65 sz65 ag65 eo65 es65 gr65 df65 ze65 sz66 ag66 ze66 fa66_0 fg66_0 sz67 ag67 ze67 fa67_0 fg67_0 sz69 ag69 ze69 sz70 ag70 ze70 sz71 ag71 ze71 sz72 ag72 ze72 sz73 ag73 ze73 sz74 ag74 ze74 sz75 ag75 ze75 sz76 ag76 ze76 u77 sz77 ag77 eo77 es77 gr77 df77 ze77 sz78 ag78 ze78 fa78_0 fg78_0 fa78_1 fg78_1 sz79 ag79 ze79 fa79_0 fg79_0 fa79_1 fg79_1 sz80 ag80 ze80 sz81 ag81 ze81 fa81_0 fg81_0 fa81_1 fg81_1 sz83 ag83 ze83 sz84 ag84 ze84 sz85 ag85 ze85 sz86 ag86 ze86 sz87 ag87 ze87 sz88 ag88 ze88 fa88_0 fg88_0 fa88_1 fg88_1 fa88_2 fg88_2 sz89 ag89 ze89 fa89_0 fg89_0 fa89_1 fg89_1 fa89_2 fg89_2 ev89 eg89 sz90 ag90 ze90 sz91 ag91 ze91 sz92 ag92 ze92 fa92_0 fg92_0 fa92_1 fg92_1 fa92_2 fg92_2 ev92 eg92 sz93 ag93 ze93 sz94 ag94 ze94 sz95 ag95 ze95 sz96 ag96 ze96 u97 sz97 ag97 eo97 es97 gr97 df97 ze97 sz98 ag98 ze98 fa98_0 fg98_0 fa98_1 fg98_1 fa98_2 fg98_2 sz99 ag99 ze99 fa99_0 fg99_0 fa99_1 fg99_1 fa99_2 fg99_2 sz100 ag100 ze100 fa100_0 fg100_0 fa100_1 fg100_1 fa100_2 fg100_2 fa100_3 fg100_3 sz101 ag101 ze101 fa101_0 fg101_0 fa101_1 fg101_1 fa101_2 fg101_2 fa101_3 fg101_3 sz102 ag102 ze102 sz103 ag103 ze103 sz104 ag104 ze104 sz105 ag105 ze105 sz106 ag106 ze106 sz107 ag107 ze107 sz108 ag108 ze108 u109 sz109 ag109 eo109 es109 gr109 df109 ze109 sz110 ag110 ze110 sz111 ag111 ze111 sz112 ag112 ze112 fa112_0 fg112_0 fa112_1 fg112_1 sz113 ag113 ze113 fa113_0 fg113_0 fa113_1 fg113_1 ev113 eg113 sz114 ag114 ze114 sz115 ag115 ze115 fa115_0 fg115_0 fa115_1 fg115_1 sz116 ag116 ze116 fa116_0 fg116_0 fa116_1 fg116_1 sz117 ag117 ze117 sz118 ag118 ze118 sz119 ag119 ze119 sz120 ag120 ze120 sz121 ag121 ze121 sz122 ag122 ze122 sz123 ag123 ze123 sz124 ag124 ze124 sz125 ag125 ze125 sz126 ag126 ze126 sz127 ag127 ze127 sz128 ag128 ze128 sz129 ag129 ze129 sz130 ag130 ze130 sz131 ag131 ze131 sz132 ag132 ze132 sz133 ag133 ze133 sz134 ag134 ze134 sz135 ag135 ze135 sz136 ag136 ze136 sz137 ag137 ze137 fa137_0 fg137_0 fa137_1 fg137_1 fa137_2 fg137_2 fa137_3 fg137_3 fa137_4 fg137_4 fa137_5 fg137_5 sz138 ag138 ze138 fa138_0 fg138_0 fa138_1 fg138_1 fa138_2 fg138_2 fa138_3 fg138_3 fa138_4 fg138_4 fa138_5 fg138_5 sz139 ag139 ze139 sz140 ag140 ze140 sz141 ag141 ze141 sz142 ag142 ze142 sz143 ag143 ze143 sz144 ag144 ze144 sz145 ag145 ze145 sz146 ag146 ze146 sz148 ag148 ze148 sz149 ag149 ze149 sz150 ag150 ze150 sz151 ag151 ze151 sz152 ag152 ze152 sz153 ag153 ze153 sz154 ag154 ze154 sz155 ag155 ze155 u156 sz156 ag156 eo156 es156 gr156 df156 ze156 sz157 ag157 ze157 fa157_0 fg157_0 fa157_1 fg157_1 fa157_2 fg157_2 sz158 ag158 ze158 fa158_0 fg158_0 fa158_1 fg158_1 fa158_2 fg158_2 sz159 ag159 ze159 fa159_0 fg159_0 fa159_1 fg159_1 fa159_2 fg159_2 fa159_3 fg159_3 sz160 ag160 ze160 fa160_0 fg160_0 fa160_1 fg160_1 fa160_2 fg160_2 fa160_3 fg160_3 sz161 ag161 ze161 sz162 ag162 ze162 sz163 ag163 ze163 sz164 ag164 ze164 sz165 ag165 ze165 sz166 ag166 ze166 sz167 ag167 ze167 sz168 ag168 ze168 sz169 ag169 ze169 sz170 ag170 ze170 sz171 ag171 ze171 sz172 ag172 ze172 sz173 ag173 ze173 u174 sz174 ag174 eo174 es174 ze174 u175 sz175 ag175 eo175 es175 gr175 df175 ze175 u176 sz176 ag176 eo176 es176 gr176 df176 ze176 sz177 ag177 ze177 sz178 ag178 ze178 sz179 ag179 ze179 sz180 ag180 ze180 fa180_0 fg180_0 fa180_1 fg180_1 fa180_2 fg180_2 fa180_3 fg180_3 fa180_4 fg180_4 fa180_5 fg180_5 sz181 ag181 ze181 fa181_0 fg181_0 fa181_1 fg181_1 fa181_2 fg181_2 fa181_3 fg181_3 fa181_4 fg181_4 fa181_5 fg181_5 sz182 ag182 ze182 sz183 ag183 ze183 sz184 ag184 ze184 sz185 ag185 ze185 sz186 ag186 ze186 sz187 ag187 ze187 sz188 ag188 ze188 u189 sz189 ag189 u190 sz190 ag190 u191 sz191 ag191 eo191 es191 ze191 sz192 ag192 ze192 u193 sz193 ag193 eo193 es193 gr193 df193 ze193 sz194 ag194 ze194 sz195 ag195 ze195 sz196 ag196 ze196 sz197 ag197 ze197 sz198 ag198 ze198 sz199 ag199 ze199 sz200 ag200 ze200 sz201 ag201 ze201 sz202 ag202 ze202 sz203 ag203 ze203 sz204 ag204 ze204 sz205 ag205 ze205 sz206 ag206 ze206 sz207 ag207 ze207 sz208 ag208 ze208 sz209 ag209 ze209 sz210 ag210 ze210 u211 sz211 ag211 eo211 es211 gr211 df211 ze211 sz212 ag212 ze212 sz213 ag213 ze213 sz214 ag214 ze214 sz216 ag216 ze216 sz217 ag217 ze217 sz218 ag218 ze218 fa218_0 fg218_0 fa218_1 fg218_1 fa218_2 fg218_2 sz219 ag219 ze219 fa219_0 fg219_0 fa219_1 fg219_1 fa219_2 fg219_2 u220 sz220 ag220 eo220 es220 gr220 df220 ze220 sz221 ag221 ze221 sz222 ag222 ze222 sz223 ag223 ze223 sz224 ag224 ze224 u225 sz225 ag225 ze225 sz226 ag226 ze226 fa226_0 fg226_0 fa226_1 fg226_1 ev226 eg226 sz227 ag227 ze227 fa227_0 fg227_0 fa227_1 fg227_1 ev227 eg227 sz228 ag228 ze228 u229 sz229 ag229 eo229 es229 gr229 df229 ze229 sz231 ag231 ze231 sz232 ag232 ze232 sz233 ag233 ze233 sz234 ag234 ze234 sz235 ag235 ze235 u236 sz236 ag236 eo236 es236 gr236 df236 ze236 sz238 ag238 ze238 u239 sz239 ag239 eo239 es239 ze239 sz240 ag240 ze240 sz241 ag241 ze241 u242 sz242 ag242 u243 sz243 ag243 sz244 ag244 ze244 sz245 ag245 ze245 fa245_0 fg245_0 fa245_1 fg245_1 fa245_2 fg245_2 fa245_3 fg245_3 sz246 ag246 ze246 fa246_0 fg246_0 fa246_1 fg246_1 fa246_2 fg246_2 fa246_3 fg246_3 u247 sz247 ag247 eo247 es247 ze247 sz248 ag248 ze248 sz249 ag249 ze249 sz250 ag250 ze250 u251 sz251 ag251 ze251 u252 sz252 ag252 ze252 u253 sz253 ag253 ze253 sz254 ag254 ze254 u255 sz255 ag255 ze255 u256 sz256 ag256 ze256 u257 sz257 ag257 ze257 sz258 ag258 ze258 fa258_0 fg258_0 fa258_1 fg258_1 fa258_2 fg258_2 fa258_3 fg258_3 fa258_4 fg258_4 fa258_5 fg258_5 fa258_6 fg258_6 fa258_7 fg258_7 fa258_8 fg258_8 fa258_9 fg258_9 fa258_10 fg258_10 sz259 ag259 ze259 fa259_0 fg259_0 fa259_1 fg259_1 fa259_2 fg259_2 fa259_3 fg259_3 fa259_4 fg259_4 fa259_5 fg259_5 fa259_6 fg259_6 fa259_7 fg259_7 fa259_8 fg259_8 fa259_9 fg259_9 fa259_10 fg259_10 ev3 ev191 ev239 by3 by4 by5 by9 by36 by81 by99 by101 by113 by116 by138 by158 by160 by174 by181 by219 by227 by239
attribute [go_sem high] bd7 xb7 bd8 xb8 bd13 xb13 bd14 xb14 bd18 xb18 bd19 xb19 bd23 xb23 bd24 xb24 bd28 xb28 bd29 xb29 bd33 xb33 bd34 xb34 bd37 xb37 bd38 xb38 bd39 xb39 bd40 xb40 bd41 xb41 bd42 xb42 bd47 xb47 bd48 xb48 bd49 xb49 bd50 xb50 bd52 xb52 bd62 xb62 bd63 xb63 bd66 xb66 bd67 xb67 bd78 xb78 bd79 xb79 bd81 xb81 bd88 xb88 bd89 xb89 bd92 xb92 bd98 xb98 bd99 xb99 bd100 xb100 bd101 xb101 bd112 xb112 bd113 xb113 bd115 xb115 bd116 xb116 bd137 xb137 bd138 xb138 bd157 xb157 bd158 xb158 bd159 xb159 bd160 xb160 xa174 bd180 xb180 bd181 xb181 xa191 bd218 xb218 bd219 xb219 bd226 xb226 bd227 xb227 xa239 bd245 xb245 bd246 xb246 xa247 bd258 xb258 bd259 xb259
end Go.Ev
