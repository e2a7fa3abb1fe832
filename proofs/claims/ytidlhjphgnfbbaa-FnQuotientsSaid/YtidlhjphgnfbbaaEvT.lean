/- Facts on the seat's types, printed by a program. What the evaluator is told of the functions, printed by a program. Searches. Leaves: letters, ranges. Automata: validity. -/
import Derived.Test.YtidlhjphgnfbbaaProg
import Derived.Test.YtidlhjphgnfbbaaEvO
import Derived.Test.YtidlhjphgnfbbaaEvP
set_option linter.unusedVariables false
set_option linter.unusedSimpArgs false
namespace Go.Ev
open Go Go.Proofs
set_option maxRecDepth 10000
theorem sz1 : szOf Try.prog 1 = 1 := by kernel_rfl
theorem ag1 : isAgg Try.prog 1 = false := by kernel_rfl
theorem ze1 : zero Try.prog 1 = some [V.nilfn] := by kernel_rfl
theorem u2 : Try.prog.underlying 2 = some (.int .i64) := by kernel_rfl
theorem sz2 : szOf Try.prog 2 = 1 := by kernel_rfl
theorem ag2 : isAgg Try.prog 2 = false := by kernel_rfl
theorem ze2 : zero Try.prog 2 = some [V.int .i64 0] := by kernel_rfl
theorem u3 : Try.prog.underlying 3 = some (.int .i64) := by kernel_rfl
theorem sz3 : szOf Try.prog 3 = 1 := by kernel_rfl
theorem ag3 : isAgg Try.prog 3 = false := by kernel_rfl
theorem ze3 : zero Try.prog 3 = some [V.int .i64 0] := by kernel_rfl
theorem u4 : Try.prog.underlying 4 = some .bool := by kernel_rfl
theorem sz4 : szOf Try.prog 4 = 1 := by kernel_rfl
theorem ag4 : isAgg Try.prog 4 = false := by kernel_rfl
theorem ze4 : zero Try.prog 4 = some [V.bool false] := by kernel_rfl
theorem ev4 (x y : Bool) : eqV Try.prog 4 (.bool x) (.bool y) = some (x == y) := by kernel_rfl
theorem u5 : Try.prog.underlying 5 = some (.int .u8) := by kernel_rfl
theorem sz5 : szOf Try.prog 5 = 1 := by kernel_rfl
theorem ag5 : isAgg Try.prog 5 = false := by kernel_rfl
theorem ze5 : zero Try.prog 5 = some [V.int .u8 0] := by kernel_rfl
theorem u6 : Try.prog.underlying 6 = some (.int .u8) := by kernel_rfl
theorem sz6 : szOf Try.prog 6 = 1 := by kernel_rfl
theorem ag6 : isAgg Try.prog 6 = false := by kernel_rfl
theorem ze6 : zero Try.prog 6 = some [V.int .u8 0] := by kernel_rfl
theorem sz7 : szOf Try.prog 7 = 4 := by kernel_rfl
theorem ag7 : isAgg Try.prog 7 = true := by kernel_rfl
theorem ze7 : zero Try.prog 7 = some [V.int .i64 0, V.int .i64 0, V.bool false, V.int .u8 0] := by kernel_rfl
theorem la7 : layOf Try.prog 7 = some [(2, 0, 1), (3, 1, 1), (4, 2, 1), (6, 3, 1)] := by kernel_rfl
theorem bd7 (H : Hint) (d : Nat) (ty : TypeId) (ps : Array (Nat × Operand)) (s : St) : evV Try.prog H d ty (.build 7 ps) s = aggO (buildL Try.prog [(2, 0, 1), (3, 1, 1), (4, 2, 1), (6, 3, 1)] s [V.int .i64 0, V.int .i64 0, V.bool false, V.int .u8 0] ps.toList) := build_lay la7 ze7
theorem xb7 (H : Hint) (d : Nat) (ty : TypeId) (ps : Array (Nat × Operand)) (pos : String) (aft : Array Edge) (g : Option (Nat × Bool)) : isX Try.prog H { dst := some d, op := .build 7 ps, type := ty, pos := pos, after := aft, guard := g } = !memN d H.arrs := by kernel_rfl
theorem fa7_0 (v : V) : vFieldAddr Try.prog 7 0 v = faddr 0 v := by kernel_rfl
theorem fg7_0 (s : St) (v : V) : vField Try.prog s 7 0 v = fget 0 1 false v := by kernel_rfl
theorem fa7_1 (v : V) : vFieldAddr Try.prog 7 1 v = faddr 1 v := by kernel_rfl
theorem fg7_1 (s : St) (v : V) : vField Try.prog s 7 1 v = fget 1 1 false v := by kernel_rfl
theorem fa7_2 (v : V) : vFieldAddr Try.prog 7 2 v = faddr 2 v := by kernel_rfl
theorem fg7_2 (s : St) (v : V) : vField Try.prog s 7 2 v = fget 2 1 false v := by kernel_rfl
theorem fa7_3 (v : V) : vFieldAddr Try.prog 7 3 v = faddr 3 v := by kernel_rfl
theorem fg7_3 (s : St) (v : V) : vField Try.prog s 7 3 v = fget 3 1 false v := by kernel_rfl
theorem sz8 : szOf Try.prog 8 = 4 := by kernel_rfl
theorem ag8 : isAgg Try.prog 8 = true := by kernel_rfl
theorem ze8 : zero Try.prog 8 = some [V.int .i64 0, V.int .i64 0, V.bool false, V.int .u8 0] := by kernel_rfl
theorem la8 : layOf Try.prog 8 = some [(2, 0, 1), (3, 1, 1), (4, 2, 1), (6, 3, 1)] := by kernel_rfl
theorem bd8 (H : Hint) (d : Nat) (ty : TypeId) (ps : Array (Nat × Operand)) (s : St) : evV Try.prog H d ty (.build 8 ps) s = aggO (buildL Try.prog [(2, 0, 1), (3, 1, 1), (4, 2, 1), (6, 3, 1)] s [V.int .i64 0, V.int .i64 0, V.bool false, V.int .u8 0] ps.toList) := build_lay la8 ze8
theorem xb8 (H : Hint) (d : Nat) (ty : TypeId) (ps : Array (Nat × Operand)) (pos : String) (aft : Array Edge) (g : Option (Nat × Bool)) : isX Try.prog H { dst := some d, op := .build 8 ps, type := ty, pos := pos, after := aft, guard := g } = !memN d H.arrs := by kernel_rfl
theorem fa8_0 (v : V) : vFieldAddr Try.prog 8 0 v = faddr 0 v := by kernel_rfl
theorem fg8_0 (s : St) (v : V) : vField Try.prog s 8 0 v = fget 0 1 false v := by kernel_rfl
theorem fa8_1 (v : V) : vFieldAddr Try.prog 8 1 v = faddr 1 v := by kernel_rfl
theorem fg8_1 (s : St) (v : V) : vField Try.prog s 8 1 v = fget 1 1 false v := by kernel_rfl
theorem fa8_2 (v : V) : vFieldAddr Try.prog 8 2 v = faddr 2 v := by kernel_rfl
theorem fg8_2 (s : St) (v : V) : vField Try.prog s 8 2 v = fget 2 1 false v := by kernel_rfl
theorem fa8_3 (v : V) : vFieldAddr Try.prog 8 3 v = faddr 3 v := by kernel_rfl
theorem fg8_3 (s : St) (v : V) : vField Try.prog s 8 3 v = fget 3 1 false v := by kernel_rfl
theorem u9 : Try.prog.underlying 9 = some .string := by kernel_rfl
theorem sz9 : szOf Try.prog 9 = 1 := by kernel_rfl
theorem ag9 : isAgg Try.prog 9 = false := by kernel_rfl
theorem ze9 : zero Try.prog 9 = some [V.str ⟨#[]⟩] := by kernel_rfl
theorem u10 : Try.prog.underlying 10 = some .string := by kernel_rfl
theorem sz10 : szOf Try.prog 10 = 1 := by kernel_rfl
theorem ag10 : isAgg Try.prog 10 = false := by kernel_rfl
theorem ze10 : zero Try.prog 10 = some [V.str ⟨#[]⟩] := by kernel_rfl
theorem u11 : Try.prog.underlying 11 = some .string := by kernel_rfl
theorem sz11 : szOf Try.prog 11 = 1 := by kernel_rfl
theorem ag11 : isAgg Try.prog 11 = false := by kernel_rfl
theorem ze11 : zero Try.prog 11 = some [V.str ⟨#[]⟩] := by kernel_rfl
theorem u12 : Try.prog.underlying 12 = some (.int .u64) := by kernel_rfl
theorem sz12 : szOf Try.prog 12 = 1 := by kernel_rfl
theorem ag12 : isAgg Try.prog 12 = false := by kernel_rfl
theorem ze12 : zero Try.prog 12 = some [V.int .u64 0] := by kernel_rfl
theorem sz13 : szOf Try.prog 13 = 2 := by kernel_rfl
theorem ag13 : isAgg Try.prog 13 = true := by kernel_rfl
theorem ze13 : zero Try.prog 13 = some [V.str ⟨#[]⟩, V.int .u64 0] := by kernel_rfl
theorem la13 : layOf Try.prog 13 = some [(9, 0, 1), (12, 1, 1)] := by kernel_rfl
theorem bd13 (H : Hint) (d : Nat) (ty : TypeId) (ps : Array (Nat × Operand)) (s : St) : evV Try.prog H d ty (.build 13 ps) s = aggO (buildL Try.prog [(9, 0, 1), (12, 1, 1)] s [V.str ⟨#[]⟩, V.int .u64 0] ps.toList) := build_lay la13 ze13
theorem xb13 (H : Hint) (d : Nat) (ty : TypeId) (ps : Array (Nat × Operand)) (pos : String) (aft : Array Edge) (g : Option (Nat × Bool)) : isX Try.prog H { dst := some d, op := .build 13 ps, type := ty, pos := pos, after := aft, guard := g } = !memN d H.arrs := by kernel_rfl
theorem fa13_0 (v : V) : vFieldAddr Try.prog 13 0 v = faddr 0 v := by kernel_rfl
theorem fg13_0 (s : St) (v : V) : vField Try.prog s 13 0 v = fget 0 1 false v := by kernel_rfl
theorem fa13_1 (v : V) : vFieldAddr Try.prog 13 1 v = faddr 1 v := by kernel_rfl
theorem fg13_1 (s : St) (v : V) : vField Try.prog s 13 1 v = fget 1 1 false v := by kernel_rfl
theorem sz14 : szOf Try.prog 14 = 2 := by kernel_rfl
theorem ag14 : isAgg Try.prog 14 = true := by kernel_rfl
theorem ze14 : zero Try.prog 14 = some [V.str ⟨#[]⟩, V.int .u64 0] := by kernel_rfl
theorem la14 : layOf Try.prog 14 = some [(9, 0, 1), (12, 1, 1)] := by kernel_rfl
theorem bd14 (H : Hint) (d : Nat) (ty : TypeId) (ps : Array (Nat × Operand)) (s : St) : evV Try.prog H d ty (.build 14 ps) s = aggO (buildL Try.prog [(9, 0, 1), (12, 1, 1)] s [V.str ⟨#[]⟩, V.int .u64 0] ps.toList) := build_lay la14 ze14
theorem xb14 (H : Hint) (d : Nat) (ty : TypeId) (ps : Array (Nat × Operand)) (pos : String) (aft : Array Edge) (g : Option (Nat × Bool)) : isX Try.prog H { dst := some d, op := .build 14 ps, type := ty, pos := pos, after := aft, guard := g } = !memN d H.arrs := by kernel_rfl
theorem fa14_0 (v : V) : vFieldAddr Try.prog 14 0 v = faddr 0 v := by kernel_rfl
theorem fg14_0 (s : St) (v : V) : vField Try.prog s 14 0 v = fget 0 1 false v := by kernel_rfl
theorem fa14_1 (v : V) : vFieldAddr Try.prog 14 1 v = faddr 1 v := by kernel_rfl
theorem fg14_1 (s : St) (v : V) : vField Try.prog s 14 1 v = fget 1 1 false v := by kernel_rfl
theorem u15 : Try.prog.underlying 15 = some (.pointer 76) := by kernel_rfl
theorem sz15 : szOf Try.prog 15 = 1 := by kernel_rfl
theorem ag15 : isAgg Try.prog 15 = false := by kernel_rfl
theorem ze15 : zero Try.prog 15 = some [V.nilp] := by kernel_rfl
theorem u16 : Try.prog.underlying 16 = some (.pointer 79) := by kernel_rfl
theorem sz16 : szOf Try.prog 16 = 1 := by kernel_rfl
theorem ag16 : isAgg Try.prog 16 = false := by kernel_rfl
theorem ze16 : zero Try.prog 16 = some [V.nilp] := by kernel_rfl
theorem u17 : Try.prog.underlying 17 = some (.pointer 89) := by kernel_rfl
theorem sz17 : szOf Try.prog 17 = 1 := by kernel_rfl
theorem ag17 : isAgg Try.prog 17 = false := by kernel_rfl
theorem ze17 : zero Try.prog 17 = some [V.nilp] := by kernel_rfl
theorem sz18 : szOf Try.prog 18 = 1 := by kernel_rfl
theorem ag18 : isAgg Try.prog 18 = true := by kernel_rfl
theorem ze18 : zero Try.prog 18 = some [V.nilp] := by kernel_rfl
theorem la18 : layOf Try.prog 18 = some [(17, 0, 1)] := by kernel_rfl
theorem bd18 (H : Hint) (d : Nat) (ty : TypeId) (ps : Array (Nat × Operand)) (s : St) : evV Try.prog H d ty (.build 18 ps) s = aggO (buildL Try.prog [(17, 0, 1)] s [V.nilp] ps.toList) := build_lay la18 ze18
theorem xb18 (H : Hint) (d : Nat) (ty : TypeId) (ps : Array (Nat × Operand)) (pos : String) (aft : Array Edge) (g : Option (Nat × Bool)) : isX Try.prog H { dst := some d, op := .build 18 ps, type := ty, pos := pos, after := aft, guard := g } = !memN d H.arrs := by kernel_rfl
theorem fa18_0 (v : V) : vFieldAddr Try.prog 18 0 v = faddr 0 v := by kernel_rfl
theorem fg18_0 (s : St) (v : V) : vField Try.prog s 18 0 v = fget 0 1 false v := by kernel_rfl
theorem sz19 : szOf Try.prog 19 = 1 := by kernel_rfl
theorem ag19 : isAgg Try.prog 19 = true := by kernel_rfl
theorem ze19 : zero Try.prog 19 = some [V.nilp] := by kernel_rfl
theorem la19 : layOf Try.prog 19 = some [(17, 0, 1)] := by kernel_rfl
theorem bd19 (H : Hint) (d : Nat) (ty : TypeId) (ps : Array (Nat × Operand)) (s : St) : evV Try.prog H d ty (.build 19 ps) s = aggO (buildL Try.prog [(17, 0, 1)] s [V.nilp] ps.toList) := build_lay la19 ze19
theorem xb19 (H : Hint) (d : Nat) (ty : TypeId) (ps : Array (Nat × Operand)) (pos : String) (aft : Array Edge) (g : Option (Nat × Bool)) : isX Try.prog H { dst := some d, op := .build 19 ps, type := ty, pos := pos, after := aft, guard := g } = !memN d H.arrs := by kernel_rfl
theorem fa19_0 (v : V) : vFieldAddr Try.prog 19 0 v = faddr 0 v := by kernel_rfl
theorem fg19_0 (s : St) (v : V) : vField Try.prog s 19 0 v = fget 0 1 false v := by kernel_rfl
theorem u21 : Try.prog.underlying 21 = some (.int .i32) := by kernel_rfl
theorem sz21 : szOf Try.prog 21 = 1 := by kernel_rfl
theorem ag21 : isAgg Try.prog 21 = false := by kernel_rfl
theorem ze21 : zero Try.prog 21 = some [V.int .i32 0] := by kernel_rfl
theorem u22 : Try.prog.underlying 22 = some (.slice 5) := by kernel_rfl
theorem sz22 : szOf Try.prog 22 = 1 := by kernel_rfl
theorem ag22 : isAgg Try.prog 22 = false := by kernel_rfl
theorem eo22 : elemOf Try.prog 22 = 5 := by kernel_rfl
theorem es22 : elemSz Try.prog 22 = 1 := by kernel_rfl
theorem gr22 : growB Try.prog 22 = true := by kernel_rfl
theorem df22 : dflt Try.prog 22 = V.int .u8 0 := by kernel_rfl
theorem ze22 : zero Try.prog 22 = some [V.slc true 1 []] := by kernel_rfl
theorem sz23 : szOf Try.prog 23 = 1 := by kernel_rfl
theorem ag23 : isAgg Try.prog 23 = false := by kernel_rfl
theorem ze23 : zero Try.prog 23 = some [V.nilfn] := by kernel_rfl
theorem u24 : Try.prog.underlying 24 = some (.slice 4) := by kernel_rfl
theorem sz24 : szOf Try.prog 24 = 1 := by kernel_rfl
theorem ag24 : isAgg Try.prog 24 = false := by kernel_rfl
theorem eo24 : elemOf Try.prog 24 = 4 := by kernel_rfl
theorem es24 : elemSz Try.prog 24 = 1 := by kernel_rfl
theorem gr24 : growB Try.prog 24 = true := by kernel_rfl
theorem df24 : dflt Try.prog 24 = V.bool false := by kernel_rfl
theorem ze24 : zero Try.prog 24 = some [V.slc true 1 []] := by kernel_rfl
theorem u25 : Try.prog.underlying 25 = some (.slice 51) := by kernel_rfl
theorem sz25 : szOf Try.prog 25 = 1 := by kernel_rfl
theorem ag25 : isAgg Try.prog 25 = false := by kernel_rfl
theorem eo25 : elemOf Try.prog 25 = 51 := by kernel_rfl
theorem es25 : elemSz Try.prog 25 = 1 := by kernel_rfl
theorem gr25 : growB Try.prog 25 = true := by kernel_rfl
theorem df25 : dflt Try.prog 25 = V.slc false 1 [] := by kernel_rfl
theorem ze25 : zero Try.prog 25 = some [V.slc true 1 []] := by kernel_rfl
theorem sz26 : szOf Try.prog 26 = 2 := by kernel_rfl
theorem ag26 : isAgg Try.prog 26 = true := by kernel_rfl
theorem ze26 : zero Try.prog 26 = some [V.slc true 1 [], V.slc true 1 []] := by kernel_rfl
theorem la26 : layOf Try.prog 26 = some [(24, 0, 1), (25, 1, 1)] := by kernel_rfl
theorem bd26 (H : Hint) (d : Nat) (ty : TypeId) (ps : Array (Nat × Operand)) (s : St) : evV Try.prog H d ty (.build 26 ps) s = aggO (buildL Try.prog [(24, 0, 1), (25, 1, 1)] s [V.slc true 1 [], V.slc true 1 []] ps.toList) := build_lay la26 ze26
theorem xb26 (H : Hint) (d : Nat) (ty : TypeId) (ps : Array (Nat × Operand)) (pos : String) (aft : Array Edge) (g : Option (Nat × Bool)) : isX Try.prog H { dst := some d, op := .build 26 ps, type := ty, pos := pos, after := aft, guard := g } = !memN d H.arrs := by kernel_rfl
theorem fa26_0 (v : V) : vFieldAddr Try.prog 26 0 v = faddr 0 v := by kernel_rfl
theorem fg26_0 (s : St) (v : V) : vField Try.prog s 26 0 v = fget 0 1 false v := by kernel_rfl
theorem fa26_1 (v : V) : vFieldAddr Try.prog 26 1 v = faddr 1 v := by kernel_rfl
theorem fg26_1 (s : St) (v : V) : vField Try.prog s 26 1 v = fget 1 1 false v := by kernel_rfl
theorem sz27 : szOf Try.prog 27 = 2 := by kernel_rfl
theorem ag27 : isAgg Try.prog 27 = true := by kernel_rfl
theorem ze27 : zero Try.prog 27 = some [V.slc true 1 [], V.slc true 1 []] := by kernel_rfl
theorem la27 : layOf Try.prog 27 = some [(24, 0, 1), (25, 1, 1)] := by kernel_rfl
theorem bd27 (H : Hint) (d : Nat) (ty : TypeId) (ps : Array (Nat × Operand)) (s : St) : evV Try.prog H d ty (.build 27 ps) s = aggO (buildL Try.prog [(24, 0, 1), (25, 1, 1)] s [V.slc true 1 [], V.slc true 1 []] ps.toList) := build_lay la27 ze27
theorem xb27 (H : Hint) (d : Nat) (ty : TypeId) (ps : Array (Nat × Operand)) (pos : String) (aft : Array Edge) (g : Option (Nat × Bool)) : isX Try.prog H { dst := some d, op := .build 27 ps, type := ty, pos := pos, after := aft, guard := g } = !memN d H.arrs := by kernel_rfl
theorem fa27_0 (v : V) : vFieldAddr Try.prog 27 0 v = faddr 0 v := by kernel_rfl
theorem fg27_0 (s : St) (v : V) : vField Try.prog s 27 0 v = fget 0 1 false v := by kernel_rfl
theorem fa27_1 (v : V) : vFieldAddr Try.prog 27 1 v = faddr 1 v := by kernel_rfl
theorem fg27_1 (s : St) (v : V) : vField Try.prog s 27 1 v = fget 1 1 false v := by kernel_rfl
theorem sz29 : szOf Try.prog 29 = 1 := by kernel_rfl
theorem ag29 : isAgg Try.prog 29 = false := by kernel_rfl
theorem ze29 : zero Try.prog 29 = some [V.nilfn] := by kernel_rfl
theorem sz31 : szOf Try.prog 31 = 1 := by kernel_rfl
theorem ag31 : isAgg Try.prog 31 = false := by kernel_rfl
theorem ze31 : zero Try.prog 31 = some [V.nilfn] := by kernel_rfl
theorem sz32 : szOf Try.prog 32 = 1 := by kernel_rfl
theorem ag32 : isAgg Try.prog 32 = false := by kernel_rfl
theorem ze32 : zero Try.prog 32 = some [V.nilfn] := by kernel_rfl
theorem u33 : Try.prog.underlying 33 = some (.slice 9) := by kernel_rfl
theorem sz33 : szOf Try.prog 33 = 1 := by kernel_rfl
theorem ag33 : isAgg Try.prog 33 = false := by kernel_rfl
theorem eo33 : elemOf Try.prog 33 = 9 := by kernel_rfl
theorem es33 : elemSz Try.prog 33 = 1 := by kernel_rfl
theorem gr33 : growB Try.prog 33 = true := by kernel_rfl
theorem df33 : dflt Try.prog 33 = V.str ⟨#[]⟩ := by kernel_rfl
theorem ze33 : zero Try.prog 33 = some [V.slc true 1 []] := by kernel_rfl
theorem sz34 : szOf Try.prog 34 = 1 := by kernel_rfl
theorem ag34 : isAgg Try.prog 34 = false := by kernel_rfl
theorem ze34 : zero Try.prog 34 = some [V.nilfn] := by kernel_rfl
theorem sz35 : szOf Try.prog 35 = 1 := by kernel_rfl
theorem ag35 : isAgg Try.prog 35 = false := by kernel_rfl
theorem ze35 : zero Try.prog 35 = some [V.nilfn] := by kernel_rfl
theorem u36 : Try.prog.underlying 36 = some (.pointer 53) := by kernel_rfl
theorem sz36 : szOf Try.prog 36 = 1 := by kernel_rfl
theorem ag36 : isAgg Try.prog 36 = false := by kernel_rfl
theorem ze36 : zero Try.prog 36 = some [V.nilp] := by kernel_rfl
theorem sz37 : szOf Try.prog 37 = 1 := by kernel_rfl
theorem ag37 : isAgg Try.prog 37 = false := by kernel_rfl
theorem ze37 : zero Try.prog 37 = some [V.nilfn] := by kernel_rfl
theorem sz38 : szOf Try.prog 38 = 1 := by kernel_rfl
theorem ag38 : isAgg Try.prog 38 = false := by kernel_rfl
theorem ze38 : zero Try.prog 38 = some [V.nilfn] := by kernel_rfl
theorem sz39 : szOf Try.prog 39 = 1 := by kernel_rfl
theorem ag39 : isAgg Try.prog 39 = false := by kernel_rfl
theorem ze39 : zero Try.prog 39 = some [V.nilfn] := by kernel_rfl
theorem sz40 : szOf Try.prog 40 = 1 := by kernel_rfl
theorem ag40 : isAgg Try.prog 40 = false := by kernel_rfl
theorem ze40 : zero Try.prog 40 = some [V.nilfn] := by kernel_rfl
theorem sz41 : szOf Try.prog 41 = 1 := by kernel_rfl
theorem ag41 : isAgg Try.prog 41 = false := by kernel_rfl
theorem ze41 : zero Try.prog 41 = some [V.nilfn] := by kernel_rfl
theorem sz42 : szOf Try.prog 42 = 1 := by kernel_rfl
theorem ag42 : isAgg Try.prog 42 = false := by kernel_rfl
theorem ze42 : zero Try.prog 42 = some [V.nilfn] := by kernel_rfl
theorem sz43 : szOf Try.prog 43 = 1 := by kernel_rfl
theorem ag43 : isAgg Try.prog 43 = false := by kernel_rfl
theorem ze43 : zero Try.prog 43 = some [V.nilfn] := by kernel_rfl
theorem sz44 : szOf Try.prog 44 = 1 := by kernel_rfl
theorem ag44 : isAgg Try.prog 44 = false := by kernel_rfl
theorem ze44 : zero Try.prog 44 = some [V.nilfn] := by kernel_rfl
theorem sz45 : szOf Try.prog 45 = 1 := by kernel_rfl
theorem ag45 : isAgg Try.prog 45 = false := by kernel_rfl
theorem ze45 : zero Try.prog 45 = some [V.nilfn] := by kernel_rfl
theorem sz46 : szOf Try.prog 46 = 1 := by kernel_rfl
theorem ag46 : isAgg Try.prog 46 = false := by kernel_rfl
theorem ze46 : zero Try.prog 46 = some [V.nilfn] := by kernel_rfl
theorem sz48 : szOf Try.prog 48 = 1 := by kernel_rfl
theorem ag48 : isAgg Try.prog 48 = false := by kernel_rfl
theorem ze48 : zero Try.prog 48 = some [V.nilfn] := by kernel_rfl
theorem sz49 : szOf Try.prog 49 = 1 := by kernel_rfl
theorem ag49 : isAgg Try.prog 49 = false := by kernel_rfl
theorem ze49 : zero Try.prog 49 = some [V.nilfn] := by kernel_rfl
theorem sz50 : szOf Try.prog 50 = 1 := by kernel_rfl
theorem ag50 : isAgg Try.prog 50 = false := by kernel_rfl
theorem ze50 : zero Try.prog 50 = some [V.nilfn] := by kernel_rfl
theorem u51 : Try.prog.underlying 51 = some (.slice 3) := by kernel_rfl
theorem sz51 : szOf Try.prog 51 = 1 := by kernel_rfl
theorem ag51 : isAgg Try.prog 51 = false := by kernel_rfl
theorem eo51 : elemOf Try.prog 51 = 3 := by kernel_rfl
theorem es51 : elemSz Try.prog 51 = 1 := by kernel_rfl
theorem gr51 : growB Try.prog 51 = true := by kernel_rfl
theorem df51 : dflt Try.prog 51 = V.int .i64 0 := by kernel_rfl
theorem ze51 : zero Try.prog 51 = some [V.slc true 1 []] := by kernel_rfl
theorem sz52 : szOf Try.prog 52 = 3 := by kernel_rfl
theorem ag52 : isAgg Try.prog 52 = true := by kernel_rfl
theorem ze52 : zero Try.prog 52 = some [V.slc true 1 [], V.int .i64 0, V.int .i64 0] := by kernel_rfl
theorem la52 : layOf Try.prog 52 = some [(22, 0, 1), (3, 1, 1), (3, 2, 1)] := by kernel_rfl
theorem bd52 (H : Hint) (d : Nat) (ty : TypeId) (ps : Array (Nat × Operand)) (s : St) : evV Try.prog H d ty (.build 52 ps) s = aggO (buildL Try.prog [(22, 0, 1), (3, 1, 1), (3, 2, 1)] s [V.slc true 1 [], V.int .i64 0, V.int .i64 0] ps.toList) := build_lay la52 ze52
theorem xb52 (H : Hint) (d : Nat) (ty : TypeId) (ps : Array (Nat × Operand)) (pos : String) (aft : Array Edge) (g : Option (Nat × Bool)) : isX Try.prog H { dst := some d, op := .build 52 ps, type := ty, pos := pos, after := aft, guard := g } = !memN d H.arrs := by kernel_rfl
theorem fa52_0 (v : V) : vFieldAddr Try.prog 52 0 v = faddr 0 v := by kernel_rfl
theorem fg52_0 (s : St) (v : V) : vField Try.prog s 52 0 v = fget 0 1 false v := by kernel_rfl
theorem fa52_1 (v : V) : vFieldAddr Try.prog 52 1 v = faddr 1 v := by kernel_rfl
theorem fg52_1 (s : St) (v : V) : vField Try.prog s 52 1 v = fget 1 1 false v := by kernel_rfl
theorem fa52_2 (v : V) : vFieldAddr Try.prog 52 2 v = faddr 2 v := by kernel_rfl
theorem fg52_2 (s : St) (v : V) : vField Try.prog s 52 2 v = fget 2 1 false v := by kernel_rfl
theorem sz53 : szOf Try.prog 53 = 3 := by kernel_rfl
theorem ag53 : isAgg Try.prog 53 = true := by kernel_rfl
theorem ze53 : zero Try.prog 53 = some [V.slc true 1 [], V.int .i64 0, V.int .i64 0] := by kernel_rfl
theorem la53 : layOf Try.prog 53 = some [(22, 0, 1), (3, 1, 1), (3, 2, 1)] := by kernel_rfl
theorem bd53 (H : Hint) (d : Nat) (ty : TypeId) (ps : Array (Nat × Operand)) (s : St) : evV Try.prog H d ty (.build 53 ps) s = aggO (buildL Try.prog [(22, 0, 1), (3, 1, 1), (3, 2, 1)] s [V.slc true 1 [], V.int .i64 0, V.int .i64 0] ps.toList) := build_lay la53 ze53
theorem xb53 (H : Hint) (d : Nat) (ty : TypeId) (ps : Array (Nat × Operand)) (pos : String) (aft : Array Edge) (g : Option (Nat × Bool)) : isX Try.prog H { dst := some d, op := .build 53 ps, type := ty, pos := pos, after := aft, guard := g } = !memN d H.arrs := by kernel_rfl
theorem fa53_0 (v : V) : vFieldAddr Try.prog 53 0 v = faddr 0 v := by kernel_rfl
theorem fg53_0 (s : St) (v : V) : vField Try.prog s 53 0 v = fget 0 1 false v := by kernel_rfl
theorem fa53_1 (v : V) : vFieldAddr Try.prog 53 1 v = faddr 1 v := by kernel_rfl
theorem fg53_1 (s : St) (v : V) : vField Try.prog s 53 1 v = fget 1 1 false v := by kernel_rfl
theorem fa53_2 (v : V) : vFieldAddr Try.prog 53 2 v = faddr 2 v := by kernel_rfl
theorem fg53_2 (s : St) (v : V) : vField Try.prog s 53 2 v = fget 2 1 false v := by kernel_rfl
theorem sz54 : szOf Try.prog 54 = 1 := by kernel_rfl
theorem ag54 : isAgg Try.prog 54 = false := by kernel_rfl
theorem ze54 : zero Try.prog 54 = some [V.nilfn] := by kernel_rfl
theorem sz55 : szOf Try.prog 55 = 1 := by kernel_rfl
theorem ag55 : isAgg Try.prog 55 = false := by kernel_rfl
theorem ze55 : zero Try.prog 55 = some [V.nilfn] := by kernel_rfl
theorem sz56 : szOf Try.prog 56 = 1 := by kernel_rfl
theorem ag56 : isAgg Try.prog 56 = false := by kernel_rfl
theorem ze56 : zero Try.prog 56 = some [V.nilfn] := by kernel_rfl
theorem sz57 : szOf Try.prog 57 = 1 := by kernel_rfl
theorem ag57 : isAgg Try.prog 57 = false := by kernel_rfl
theorem ze57 : zero Try.prog 57 = some [V.nilfn] := by kernel_rfl
theorem sz58 : szOf Try.prog 58 = 1 := by kernel_rfl
theorem ag58 : isAgg Try.prog 58 = false := by kernel_rfl
theorem ze58 : zero Try.prog 58 = some [V.nilfn] := by kernel_rfl
theorem sz59 : szOf Try.prog 59 = 1 := by kernel_rfl
theorem ag59 : isAgg Try.prog 59 = false := by kernel_rfl
theorem ze59 : zero Try.prog 59 = some [V.nilfn] := by kernel_rfl
theorem sz60 : szOf Try.prog 60 = 1 := by kernel_rfl
theorem ag60 : isAgg Try.prog 60 = false := by kernel_rfl
theorem ze60 : zero Try.prog 60 = some [V.nilfn] := by kernel_rfl
theorem u61 : Try.prog.underlying 61 = some (.map 3 3) := by kernel_rfl
theorem sz61 : szOf Try.prog 61 = 1 := by kernel_rfl
theorem ag61 : isAgg Try.prog 61 = false := by kernel_rfl
theorem u62 : Try.prog.underlying 62 = some (.map 63 3) := by kernel_rfl
theorem sz62 : szOf Try.prog 62 = 1 := by kernel_rfl
theorem ag62 : isAgg Try.prog 62 = false := by kernel_rfl
theorem xa63 (H : Hint) (d : Nat) (ty : TypeId) (ps : Array (Nat × Operand)) (pos : String) (aft : Array Edge) (g : Option (Nat × Bool)) : isX Try.prog H { dst := some d, op := .build 63 ps, type := ty, pos := pos, after := aft, guard := g } = memN d H.arrs := by kernel_rfl
theorem u63 : Try.prog.underlying 63 = some (.array 4 3) := by kernel_rfl
theorem sz63 : szOf Try.prog 63 = 4 := by kernel_rfl
theorem ag63 : isAgg Try.prog 63 = true := by kernel_rfl
theorem eo63 : elemOf Try.prog 63 = 3 := by kernel_rfl
theorem es63 : elemSz Try.prog 63 = 1 := by kernel_rfl
theorem ze63 : zero Try.prog 63 = some [V.int .i64 0, V.int .i64 0, V.int .i64 0, V.int .i64 0] := by kernel_rfl
theorem sz64 : szOf Try.prog 64 = 1 := by kernel_rfl
theorem ag64 : isAgg Try.prog 64 = false := by kernel_rfl
theorem ze64 : zero Try.prog 64 = some [V.nilfn] := by kernel_rfl
theorem sz65 : szOf Try.prog 65 = 1 := by kernel_rfl
theorem ag65 : isAgg Try.prog 65 = false := by kernel_rfl
theorem ze65 : zero Try.prog 65 = some [V.nilfn] := by kernel_rfl
theorem sz66 : szOf Try.prog 66 = 1 := by kernel_rfl
theorem ag66 : isAgg Try.prog 66 = false := by kernel_rfl
theorem ze66 : zero Try.prog 66 = some [V.nilfn] := by kernel_rfl
theorem sz67 : szOf Try.prog 67 = 1 := by kernel_rfl
theorem ag67 : isAgg Try.prog 67 = false := by kernel_rfl
theorem ze67 : zero Try.prog 67 = some [V.nilfn] := by kernel_rfl
theorem sz68 : szOf Try.prog 68 = 1 := by kernel_rfl
theorem ag68 : isAgg Try.prog 68 = false := by kernel_rfl
theorem ze68 : zero Try.prog 68 = some [V.nilfn] := by kernel_rfl
theorem sz69 : szOf Try.prog 69 = 1 := by kernel_rfl
theorem ag69 : isAgg Try.prog 69 = false := by kernel_rfl
theorem ze69 : zero Try.prog 69 = some [V.nilfn] := by kernel_rfl
theorem sz70 : szOf Try.prog 70 = 1 := by kernel_rfl
theorem ag70 : isAgg Try.prog 70 = false := by kernel_rfl
theorem ze70 : zero Try.prog 70 = some [V.nilfn] := by kernel_rfl
theorem sz71 : szOf Try.prog 71 = 1 := by kernel_rfl
theorem ag71 : isAgg Try.prog 71 = false := by kernel_rfl
theorem ze71 : zero Try.prog 71 = some [V.nilfn] := by kernel_rfl
theorem sz72 : szOf Try.prog 72 = 1 := by kernel_rfl
theorem ag72 : isAgg Try.prog 72 = false := by kernel_rfl
theorem ze72 : zero Try.prog 72 = some [V.nilfn] := by kernel_rfl
theorem u73 : Try.prog.underlying 73 = some (.int .u64) := by kernel_rfl
theorem sz73 : szOf Try.prog 73 = 1 := by kernel_rfl
theorem ag73 : isAgg Try.prog 73 = false := by kernel_rfl
theorem ze73 : zero Try.prog 73 = some [V.int .u64 0] := by kernel_rfl
theorem sz74 : szOf Try.prog 74 = 1 := by kernel_rfl
theorem ag74 : isAgg Try.prog 74 = false := by kernel_rfl
theorem ze74 : zero Try.prog 74 = some [V.nilfn] := by kernel_rfl
theorem sz75 : szOf Try.prog 75 = 4 := by kernel_rfl
theorem ag75 : isAgg Try.prog 75 = true := by kernel_rfl
theorem ze75 : zero Try.prog 75 = some [V.nilp, V.nilp, V.nilp, V.str ⟨#[]⟩] := by kernel_rfl
theorem la75 : layOf Try.prog 75 = some [(17, 0, 1), (17, 1, 1), (17, 2, 1), (9, 3, 1)] := by kernel_rfl
theorem bd75 (H : Hint) (d : Nat) (ty : TypeId) (ps : Array (Nat × Operand)) (s : St) : evV Try.prog H d ty (.build 75 ps) s = aggO (buildL Try.prog [(17, 0, 1), (17, 1, 1), (17, 2, 1), (9, 3, 1)] s [V.nilp, V.nilp, V.nilp, V.str ⟨#[]⟩] ps.toList) := build_lay la75 ze75
theorem xb75 (H : Hint) (d : Nat) (ty : TypeId) (ps : Array (Nat × Operand)) (pos : String) (aft : Array Edge) (g : Option (Nat × Bool)) : isX Try.prog H { dst := some d, op := .build 75 ps, type := ty, pos := pos, after := aft, guard := g } = !memN d H.arrs := by kernel_rfl
theorem fa75_0 (v : V) : vFieldAddr Try.prog 75 0 v = faddr 0 v := by kernel_rfl
theorem fg75_0 (s : St) (v : V) : vField Try.prog s 75 0 v = fget 0 1 false v := by kernel_rfl
theorem fa75_1 (v : V) : vFieldAddr Try.prog 75 1 v = faddr 1 v := by kernel_rfl
theorem fg75_1 (s : St) (v : V) : vField Try.prog s 75 1 v = fget 1 1 false v := by kernel_rfl
theorem fa75_2 (v : V) : vFieldAddr Try.prog 75 2 v = faddr 2 v := by kernel_rfl
theorem fg75_2 (s : St) (v : V) : vField Try.prog s 75 2 v = fget 2 1 false v := by kernel_rfl
theorem fa75_3 (v : V) : vFieldAddr Try.prog 75 3 v = faddr 3 v := by kernel_rfl
theorem fg75_3 (s : St) (v : V) : vField Try.prog s 75 3 v = fget 3 1 false v := by kernel_rfl
theorem sz76 : szOf Try.prog 76 = 4 := by kernel_rfl
theorem ag76 : isAgg Try.prog 76 = true := by kernel_rfl
theorem ze76 : zero Try.prog 76 = some [V.nilp, V.nilp, V.nilp, V.str ⟨#[]⟩] := by kernel_rfl
theorem la76 : layOf Try.prog 76 = some [(17, 0, 1), (17, 1, 1), (17, 2, 1), (9, 3, 1)] := by kernel_rfl
theorem bd76 (H : Hint) (d : Nat) (ty : TypeId) (ps : Array (Nat × Operand)) (s : St) : evV Try.prog H d ty (.build 76 ps) s = aggO (buildL Try.prog [(17, 0, 1), (17, 1, 1), (17, 2, 1), (9, 3, 1)] s [V.nilp, V.nilp, V.nilp, V.str ⟨#[]⟩] ps.toList) := build_lay la76 ze76
theorem xb76 (H : Hint) (d : Nat) (ty : TypeId) (ps : Array (Nat × Operand)) (pos : String) (aft : Array Edge) (g : Option (Nat × Bool)) : isX Try.prog H { dst := some d, op := .build 76 ps, type := ty, pos := pos, after := aft, guard := g } = !memN d H.arrs := by kernel_rfl
theorem fa76_0 (v : V) : vFieldAddr Try.prog 76 0 v = faddr 0 v := by kernel_rfl
theorem fg76_0 (s : St) (v : V) : vField Try.prog s 76 0 v = fget 0 1 false v := by kernel_rfl
theorem fa76_1 (v : V) : vFieldAddr Try.prog 76 1 v = faddr 1 v := by kernel_rfl
theorem fg76_1 (s : St) (v : V) : vField Try.prog s 76 1 v = fget 1 1 false v := by kernel_rfl
theorem fa76_2 (v : V) : vFieldAddr Try.prog 76 2 v = faddr 2 v := by kernel_rfl
theorem fg76_2 (s : St) (v : V) : vField Try.prog s 76 2 v = fget 2 1 false v := by kernel_rfl
theorem fa76_3 (v : V) : vFieldAddr Try.prog 76 3 v = faddr 3 v := by kernel_rfl
theorem fg76_3 (s : St) (v : V) : vField Try.prog s 76 3 v = fget 3 1 false v := by kernel_rfl
theorem xa77 (H : Hint) (d : Nat) (ty : TypeId) (ps : Array (Nat × Operand)) (pos : String) (aft : Array Edge) (g : Option (Nat × Bool)) : isX Try.prog H { dst := some d, op := .build 77 ps, type := ty, pos := pos, after := aft, guard := g } = memN d H.arrs := by kernel_rfl
theorem u77 : Try.prog.underlying 77 = some (.array 0 16) := by kernel_rfl
theorem sz77 : szOf Try.prog 77 = 0 := by kernel_rfl
theorem ag77 : isAgg Try.prog 77 = true := by kernel_rfl
theorem eo77 : elemOf Try.prog 77 = 16 := by kernel_rfl
theorem es77 : elemSz Try.prog 77 = 1 := by kernel_rfl
theorem ze77 : zero Try.prog 77 = some [] := by kernel_rfl
theorem sz78 : szOf Try.prog 78 = 0 := by kernel_rfl
theorem ag78 : isAgg Try.prog 78 = true := by kernel_rfl
theorem ze78 : zero Try.prog 78 = some [] := by kernel_rfl
theorem sz79 : szOf Try.prog 79 = 0 := by kernel_rfl
theorem ag79 : isAgg Try.prog 79 = true := by kernel_rfl
theorem ze79 : zero Try.prog 79 = some [] := by kernel_rfl
theorem sz80 : szOf Try.prog 80 = 1 := by kernel_rfl
theorem ag80 : isAgg Try.prog 80 = false := by kernel_rfl
theorem ze80 : zero Try.prog 80 = some [V.nilfn] := by kernel_rfl
theorem u81 : Try.prog.underlying 81 = some (.int .u32) := by kernel_rfl
theorem sz81 : szOf Try.prog 81 = 1 := by kernel_rfl
theorem ag81 : isAgg Try.prog 81 = false := by kernel_rfl
theorem ze81 : zero Try.prog 81 = some [V.int .u32 0] := by kernel_rfl
theorem u82 : Try.prog.underlying 82 = some (.int .u8) := by kernel_rfl
theorem sz82 : szOf Try.prog 82 = 1 := by kernel_rfl
theorem ag82 : isAgg Try.prog 82 = false := by kernel_rfl
theorem ze82 : zero Try.prog 82 = some [V.int .u8 0] := by kernel_rfl
theorem u83 : Try.prog.underlying 83 = some (.int .u8) := by kernel_rfl
theorem sz83 : szOf Try.prog 83 = 1 := by kernel_rfl
theorem ag83 : isAgg Try.prog 83 = false := by kernel_rfl
theorem ze83 : zero Try.prog 83 = some [V.int .u8 0] := by kernel_rfl
theorem sz84 : szOf Try.prog 84 = 1 := by kernel_rfl
theorem ag84 : isAgg Try.prog 84 = false := by kernel_rfl
theorem ze84 : zero Try.prog 84 = some [V.nilfn] := by kernel_rfl
theorem u85 : Try.prog.underlying 85 = some (.pointer 5) := by kernel_rfl
theorem sz85 : szOf Try.prog 85 = 1 := by kernel_rfl
theorem ag85 : isAgg Try.prog 85 = false := by kernel_rfl
theorem ze85 : zero Try.prog 85 = some [V.nilp] := by kernel_rfl
theorem u86 : Try.prog.underlying 86 = some (.int .i32) := by kernel_rfl
theorem sz86 : szOf Try.prog 86 = 1 := by kernel_rfl
theorem ag86 : isAgg Try.prog 86 = false := by kernel_rfl
theorem ze86 : zero Try.prog 86 = some [V.int .i32 0] := by kernel_rfl
theorem u87 : Try.prog.underlying 87 = some (.int .i32) := by kernel_rfl
theorem sz87 : szOf Try.prog 87 = 1 := by kernel_rfl
theorem ag87 : isAgg Try.prog 87 = false := by kernel_rfl
theorem ze87 : zero Try.prog 87 = some [V.int .i32 0] := by kernel_rfl
theorem sz88 : szOf Try.prog 88 = 11 := by kernel_rfl
theorem ag88 : isAgg Try.prog 88 = true := by kernel_rfl
theorem ze88 : zero Try.prog 88 = some [V.int .u64 0, V.int .u64 0, V.int .u32 0, V.int .u8 0, V.int .u8 0, V.int .u8 0, V.int .u8 0, V.nilfn, V.nilp, V.int .i32 0, V.int .i32 0] := by kernel_rfl
theorem la88 : layOf Try.prog 88 = some [(12, 0, 1), (12, 1, 1), (81, 2, 1), (82, 3, 1), (5, 4, 1), (5, 5, 1), (83, 6, 1), (84, 7, 1), (85, 8, 1), (86, 9, 1), (87, 10, 1)] := by kernel_rfl
theorem bd88 (H : Hint) (d : Nat) (ty : TypeId) (ps : Array (Nat × Operand)) (s : St) : evV Try.prog H d ty (.build 88 ps) s = aggO (buildL Try.prog [(12, 0, 1), (12, 1, 1), (81, 2, 1), (82, 3, 1), (5, 4, 1), (5, 5, 1), (83, 6, 1), (84, 7, 1), (85, 8, 1), (86, 9, 1), (87, 10, 1)] s [V.int .u64 0, V.int .u64 0, V.int .u32 0, V.int .u8 0, V.int .u8 0, V.int .u8 0, V.int .u8 0, V.nilfn, V.nilp, V.int .i32 0, V.int .i32 0] ps.toList) := build_lay la88 ze88
theorem xb88 (H : Hint) (d : Nat) (ty : TypeId) (ps : Array (Nat × Operand)) (pos : String) (aft : Array Edge) (g : Option (Nat × Bool)) : isX Try.prog H { dst := some d, op := .build 88 ps, type := ty, pos := pos, after := aft, guard := g } = !memN d H.arrs := by kernel_rfl
theorem fa88_0 (v : V) : vFieldAddr Try.prog 88 0 v = faddr 0 v := by kernel_rfl
theorem fg88_0 (s : St) (v : V) : vField Try.prog s 88 0 v = fget 0 1 false v := by kernel_rfl
theorem fa88_1 (v : V) : vFieldAddr Try.prog 88 1 v = faddr 1 v := by kernel_rfl
theorem fg88_1 (s : St) (v : V) : vField Try.prog s 88 1 v = fget 1 1 false v := by kernel_rfl
theorem fa88_2 (v : V) : vFieldAddr Try.prog 88 2 v = faddr 2 v := by kernel_rfl
theorem fg88_2 (s : St) (v : V) : vField Try.prog s 88 2 v = fget 2 1 false v := by kernel_rfl
theorem fa88_3 (v : V) : vFieldAddr Try.prog 88 3 v = faddr 3 v := by kernel_rfl
theorem fg88_3 (s : St) (v : V) : vField Try.prog s 88 3 v = fget 3 1 false v := by kernel_rfl
theorem fa88_4 (v : V) : vFieldAddr Try.prog 88 4 v = faddr 4 v := by kernel_rfl
theorem fg88_4 (s : St) (v : V) : vField Try.prog s 88 4 v = fget 4 1 false v := by kernel_rfl
theorem fa88_5 (v : V) : vFieldAddr Try.prog 88 5 v = faddr 5 v := by kernel_rfl
theorem fg88_5 (s : St) (v : V) : vField Try.prog s 88 5 v = fget 5 1 false v := by kernel_rfl
theorem fa88_6 (v : V) : vFieldAddr Try.prog 88 6 v = faddr 6 v := by kernel_rfl
theorem fg88_6 (s : St) (v : V) : vField Try.prog s 88 6 v = fget 6 1 false v := by kernel_rfl
theorem fa88_7 (v : V) : vFieldAddr Try.prog 88 7 v = faddr 7 v := by kernel_rfl
theorem fg88_7 (s : St) (v : V) : vField Try.prog s 88 7 v = fget 7 1 false v := by kernel_rfl
theorem fa88_8 (v : V) : vFieldAddr Try.prog 88 8 v = faddr 8 v := by kernel_rfl
theorem fg88_8 (s : St) (v : V) : vField Try.prog s 88 8 v = fget 8 1 false v := by kernel_rfl
theorem fa88_9 (v : V) : vFieldAddr Try.prog 88 9 v = faddr 9 v := by kernel_rfl
theorem fg88_9 (s : St) (v : V) : vField Try.prog s 88 9 v = fget 9 1 false v := by kernel_rfl
theorem fa88_10 (v : V) : vFieldAddr Try.prog 88 10 v = faddr 10 v := by kernel_rfl
theorem fg88_10 (s : St) (v : V) : vField Try.prog s 88 10 v = fget 10 1 false v := by kernel_rfl
theorem sz89 : szOf Try.prog 89 = 11 := by kernel_rfl
theorem ag89 : isAgg Try.prog 89 = true := by kernel_rfl
theorem ze89 : zero Try.prog 89 = some [V.int .u64 0, V.int .u64 0, V.int .u32 0, V.int .u8 0, V.int .u8 0, V.int .u8 0, V.int .u8 0, V.nilfn, V.nilp, V.int .i32 0, V.int .i32 0] := by kernel_rfl
theorem la89 : layOf Try.prog 89 = some [(12, 0, 1), (12, 1, 1), (81, 2, 1), (82, 3, 1), (5, 4, 1), (5, 5, 1), (83, 6, 1), (84, 7, 1), (85, 8, 1), (86, 9, 1), (87, 10, 1)] := by kernel_rfl
theorem bd89 (H : Hint) (d : Nat) (ty : TypeId) (ps : Array (Nat × Operand)) (s : St) : evV Try.prog H d ty (.build 89 ps) s = aggO (buildL Try.prog [(12, 0, 1), (12, 1, 1), (81, 2, 1), (82, 3, 1), (5, 4, 1), (5, 5, 1), (83, 6, 1), (84, 7, 1), (85, 8, 1), (86, 9, 1), (87, 10, 1)] s [V.int .u64 0, V.int .u64 0, V.int .u32 0, V.int .u8 0, V.int .u8 0, V.int .u8 0, V.int .u8 0, V.nilfn, V.nilp, V.int .i32 0, V.int .i32 0] ps.toList) := build_lay la89 ze89
theorem xb89 (H : Hint) (d : Nat) (ty : TypeId) (ps : Array (Nat × Operand)) (pos : String) (aft : Array Edge) (g : Option (Nat × Bool)) : isX Try.prog H { dst := some d, op := .build 89 ps, type := ty, pos := pos, after := aft, guard := g } = !memN d H.arrs := by kernel_rfl
theorem fa89_0 (v : V) : vFieldAddr Try.prog 89 0 v = faddr 0 v := by kernel_rfl
theorem fg89_0 (s : St) (v : V) : vField Try.prog s 89 0 v = fget 0 1 false v := by kernel_rfl
theorem fa89_1 (v : V) : vFieldAddr Try.prog 89 1 v = faddr 1 v := by kernel_rfl
theorem fg89_1 (s : St) (v : V) : vField Try.prog s 89 1 v = fget 1 1 false v := by kernel_rfl
theorem fa89_2 (v : V) : vFieldAddr Try.prog 89 2 v = faddr 2 v := by kernel_rfl
theorem fg89_2 (s : St) (v : V) : vField Try.prog s 89 2 v = fget 2 1 false v := by kernel_rfl
theorem fa89_3 (v : V) : vFieldAddr Try.prog 89 3 v = faddr 3 v := by kernel_rfl
theorem fg89_3 (s : St) (v : V) : vField Try.prog s 89 3 v = fget 3 1 false v := by kernel_rfl
theorem fa89_4 (v : V) : vFieldAddr Try.prog 89 4 v = faddr 4 v := by kernel_rfl
theorem fg89_4 (s : St) (v : V) : vField Try.prog s 89 4 v = fget 4 1 false v := by kernel_rfl
theorem fa89_5 (v : V) : vFieldAddr Try.prog 89 5 v = faddr 5 v := by kernel_rfl
theorem fg89_5 (s : St) (v : V) : vField Try.prog s 89 5 v = fget 5 1 false v := by kernel_rfl
theorem fa89_6 (v : V) : vFieldAddr Try.prog 89 6 v = faddr 6 v := by kernel_rfl
theorem fg89_6 (s : St) (v : V) : vField Try.prog s 89 6 v = fget 6 1 false v := by kernel_rfl
theorem fa89_7 (v : V) : vFieldAddr Try.prog 89 7 v = faddr 7 v := by kernel_rfl
theorem fg89_7 (s : St) (v : V) : vField Try.prog s 89 7 v = fget 7 1 false v := by kernel_rfl
theorem fa89_8 (v : V) : vFieldAddr Try.prog 89 8 v = faddr 8 v := by kernel_rfl
theorem fg89_8 (s : St) (v : V) : vField Try.prog s 89 8 v = fget 8 1 false v := by kernel_rfl
theorem fa89_9 (v : V) : vFieldAddr Try.prog 89 9 v = faddr 9 v := by kernel_rfl
theorem fg89_9 (s : St) (v : V) : vField Try.prog s 89 9 v = fget 9 1 false v := by kernel_rfl
theorem fa89_10 (v : V) : vFieldAddr Try.prog 89 10 v = faddr 10 v := by kernel_rfl
theorem fg89_10 (s : St) (v : V) : vField Try.prog s 89 10 v = fget 10 1 false v := by kernel_rfl
theorem ev3 (x y : Int) : eqV Try.prog 3 (.int .i64 x) (.int .i64 y) = some (x == y) := by kernel_rfl
theorem ev63 (x0 y0 x1 y1 x2 y2 x3 y3 : Int) : eqV Try.prog 63 (.agg [V.int .i64 x0, V.int .i64 x1, V.int .i64 x2, V.int .i64 x3]) (.agg [V.int .i64 y0, V.int .i64 y1, V.int .i64 y2, V.int .i64 y3]) = some ((x0 == y0) && ((x1 == y1) && ((x2 == y2) && ((x3 == y3) && true)))) := by kernel_rfl
theorem by3 : (Try.prog.bytesOf 3) = 8 := by kernel_rfl
theorem by4 : (Try.prog.bytesOf 4) = 1 := by kernel_rfl
theorem by5 : (Try.prog.bytesOf 5) = 1 := by kernel_rfl
theorem by9 : (Try.prog.bytesOf 9) = 16 := by kernel_rfl
theorem by51 : (Try.prog.bytesOf 51) = 24 := by kernel_rfl
attribute [go_sem] sz1 ag1 ze1 u2 sz2 ag2 ze2 u3 sz3 ag3 ze3 u4 sz4 ag4 ze4 ev4 u5 sz5 ag5 ze5 u6 sz6 ag6 ze6 sz7 ag7 ze7 fa7_0 fg7_0 fa7_1 fg7_1 fa7_2 fg7_2 fa7_3 fg7_3 sz8 ag8 ze8 fa8_0 fg8_0 fa8_1 fg8_1 fa8_2 fg8_2 fa8_3 fg8_3 u9 sz9 ag9 ze9 u10 sz10 ag10 ze10 u11 sz11 ag11 ze11 u12 sz12 ag12 ze12 sz13 ag13 ze13 fa13_0 fg13_0 fa13_1 fg13_1 sz14 ag14 ze14 fa14_0 fg14_0 fa14_1 fg14_1 u15 sz15 ag15 ze15 u16 sz16 ag16 ze16 u17 sz17 ag17 ze17 sz18 ag18 ze18 fa18_0 fg18_0 sz19 ag19 ze19 fa19_0 fg19_0 u21 sz21 ag21 ze21 u22 sz22 ag22 eo22 es22 gr22 df22 ze22 sz23 ag23 ze23 u24 sz24 ag24 eo24 es24 gr24 df24 ze24 u25 sz25 ag25 eo25 es25 gr25 df25 ze25 sz26 ag26 ze26 fa26_0 fg26_0 fa26_1 fg26_1 sz27 ag27 ze27 fa27_0 fg27_0 fa27_1 fg27_1 sz29 ag29 ze29 sz31 ag31 ze31 sz32 ag32 ze32 u33 sz33 ag33 eo33 es33 gr33 df33 ze33 sz34 ag34 ze34 sz35 ag35 ze35 u36 sz36 ag36 ze36 sz37 ag37 ze37 sz38 ag38 ze38 sz39 ag39 ze39 sz40 ag40 ze40 sz41 ag41 ze41 sz42 ag42 ze42 sz43 ag43 ze43 sz44 ag44 ze44 sz45 ag45 ze45 sz46 ag46 ze46 sz48 ag48 ze48 sz49 ag49 ze49 sz50 ag50 ze50 u51 sz51 ag51 eo51 es51 gr51 df51 ze51 sz52 ag52 ze52 fa52_0 fg52_0 fa52_1 fg52_1 fa52_2 fg52_2 sz53 ag53 ze53 fa53_0 fg53_0 fa53_1 fg53_1 fa53_2 fg53_2 sz54 ag54 ze54 sz55 ag55 ze55 sz56 ag56 ze56 sz57 ag57 ze57 sz58 ag58 ze58 sz59 ag59 ze59 sz60 ag60 ze60 u61 sz61 ag61 u62 sz62 ag62 u63 sz63 ag63 eo63 es63 ze63 sz64 ag64 ze64 sz65 ag65 ze65 sz66 ag66 ze66 sz67 ag67 ze67 sz68 ag68 ze68 sz69 ag69 ze69 sz70 ag70 ze70 sz71 ag71 ze71 sz72 ag72 ze72 u73 sz73 ag73 ze73 sz74 ag74 ze74 sz75 ag75 ze75 fa75_0 fg75_0 fa75_1 fg75_1 fa75_2 fg75_2 fa75_3 fg75_3 sz76 ag76 ze76 fa76_0 fg76_0 fa76_1 fg76_1 fa76_2 fg76_2 fa76_3 fg76_3 u77 sz77 ag77 eo77 es77 ze77 sz78 ag78 ze78 sz79 ag79 ze79 sz80 ag80 ze80 u81 sz81 ag81 ze81 u82 sz82 ag82 ze82 u83 sz83 ag83 ze83 sz84 ag84 ze84 u85 sz85 ag85 ze85 u86 sz86 ag86 ze86 u87 sz87 ag87 ze87 sz88 ag88 ze88 fa88_0 fg88_0 fa88_1 fg88_1 fa88_2 fg88_2 fa88_3 fg88_3 fa88_4 fg88_4 fa88_5 fg88_5 fa88_6 fg88_6 fa88_7 fg88_7 fa88_8 fg88_8 fa88_9 fg88_9 fa88_10 fg88_10 sz89 ag89 ze89 fa89_0 fg89_0 fa89_1 fg89_1 fa89_2 fg89_2 fa89_3 fg89_3 fa89_4 fg89_4 fa89_5 fg89_5 fa89_6 fg89_6 fa89_7 fg89_7 fa89_8 fg89_8 fa89_9 fg89_9 fa89_10 fg89_10 ev3 ev63 by3 by4 by5 by9 by51
attribute [go_sem high] bd7 xb7 bd8 xb8 bd13 xb13 bd14 xb14 bd18 xb18 bd19 xb19 bd26 xb26 bd27 xb27 bd52 xb52 bd53 xb53 xa63 bd75 xb75 bd76 xb76 xa77 bd88 xb88 bd89 xb89
end Go.Ev
namespace Go.Ev
open Go Go.Proofs
def hints : List (Nat × Hint) := [(3, ⟨[17, 22, 28, 34, 40], [], [⟨0, [3, 4, 5, 6, 7, 8, 13, 14], [3, 5, 7, 9, 11]⟩], [], [], [], [26, 32, 38, 44], [], [], [], [], []⟩),
 (4, ⟨[2], [], [], [], [], [], [], [], [], [], [], []⟩),
 (5, ⟨[3, 4], [4], [], [], [], [], [], [], [], [], [], []⟩),
 (6, ⟨[], [], [], [], [], [19], [], [], [], [], [], []⟩),
 (7, ⟨[27, 40], [], [⟨0, [1, 2, 4, 6, 22, 23], [2, 4, 6]⟩], [], [(7, [0, 2, 3, 4, 5, 6, 7, 8, 9, 10, 1, 11, 12, 13])], [41], [], [], [], [], [], []⟩),
 (8, ⟨[8], [], [], [], [], [20], [], [], [], [], [], []⟩),
 (9, ⟨[28], [6], [⟨0, [1, 2, 4, 6, 7], [2, 4, 6, 430, 431]⟩], [], [], [20], [], [], [], [], [45], []⟩),
 (10, ⟨[], [], [⟨0, [2, 3, 5], [2, 3]⟩, ⟨2, [2, 3, 6], [2, 3]⟩], [], [], [], [], [], [], [], [], []⟩),
 (11, ⟨[2, 3, 15, 19], [], [⟨0, [0, 3, 4], []⟩], [], [], [], [], [], [], [], [], []⟩),
 (12, ⟨[4, 7], [], [], [], [], [], [], [], [], [], [], []⟩),
 (13, ⟨[2], [], [⟨0, [0, 3, 4], []⟩], [], [], [], [], [], [], [], [], []⟩),
 (14, ⟨[4], [], [], [], [], [], [], [], [], [], [], []⟩),
 (15, ⟨[21, 32], [13, 2000003], [], [], [(4, [0, 1, 2, 4, 5, 6, 3, 7, 8])], [5], [], [], [], [], [], []⟩),
 (16, ⟨[2], [], [], [], [], [], [], [], [], [], [], []⟩),
 (17, ⟨[8, 21, 32, 39, 40, 44], [], [⟨0, [0, 4, 5, 6, 7], [4, 6]⟩, ⟨2, [0, 4, 5, 6, 7, 8, 9], [4, 6]⟩], [23], [(1000006, [1, 3, 0, 2, 3, 1, 4, 5, 6, 7])], [37, 42], [], [], [], [41, 42], [], []⟩),
 (18, ⟨[4, 22], [], [⟨0, [0, 5, 6, 7], []⟩], [], [], [], [], [], [], [], [], []⟩),
 (19, ⟨[2], [], [], [], [], [], [], [], [], [], [], []⟩),
 (20, ⟨[2], [], [], [], [], [], [], [], [], [], [], []⟩),
 (21, ⟨[5, 27, 33, 60, 72, 133, 167, 185, 210, 223, 236, 237, 242], [79, 99], [⟨0, [2, 4, 5, 6, 7], [2, 4, 38]⟩, ⟨2, [2, 4, 5, 6, 7, 54, 55, 56], [2, 4, 38]⟩, ⟨4, [2, 4, 5, 6, 12, 80, 81, 82], [2, 4, 38, 79]⟩, ⟨6, [2, 4, 5, 6, 12, 15], [2, 4, 38]⟩, ⟨8, [2, 4, 5, 6, 12, 15, 16, 17, 100, 101, 102], [2, 4, 38, 96, 99]⟩, ⟨10, [2, 4, 5, 6, 12, 15, 16, 17, 18, 20, 100, 101, 102, 116, 117, 118], [2, 4, 20, 38, 96, 99]⟩, ⟨12, [2, 4, 5, 6, 12, 25, 26, 27, 163, 164], [2, 4, 25, 38, 160]⟩, ⟨14, [2, 4, 5, 6, 12, 25, 26, 190, 191, 192], [2, 4, 25, 38, 160]⟩, ⟨16, [2, 4, 5, 6, 12, 25, 26, 32, 33, 190, 191, 192, 204, 205, 206], [2, 4, 25, 38, 160]⟩], [], [(61, [0, 2, 3, 4, 5, 6, 7, 8, 9, 10, 1, 11, 12, 13])], [220, 233], [], [], [], [238, 239], [], []⟩),
 (22, ⟨[6, 25], [], [⟨0, [1, 2, 3, 7], [3]⟩], [], [], [], [], [], [], [], [], []⟩),
 (23, ⟨[6, 45], [], [⟨0, [2, 3, 8, 9], [3]⟩], [], [], [], [], [], [], [], [], []⟩),
 (24, ⟨[4, 7, 46, 50, 57, 70, 71, 75], [], [⟨0, [1, 2, 3, 4, 5, 6], [1, 2, 5]⟩, ⟨2, [1, 2, 3, 4, 5, 6, 7, 8], [1, 2, 5]⟩], [], [(15, [0, 2, 3, 4, 5, 6, 7, 8, 9, 10, 1, 11, 12, 13])], [55, 67], [], [], [], [72, 73], [], []⟩),
 (25, ⟨[7, 22, 38, 50], [], [⟨0, [1, 2, 4, 5, 6], [2, 4, 5]⟩, ⟨2, [1, 2, 4, 5, 6, 7, 8], [2, 4, 5]⟩], [], [(9, [1, 2, 3, 4, 5, 6, 7, 8, 9, 10, 11, 12, 13, 0, 14, 15]), (10, [0, 2, 3, 4, 5, 6, 7, 8, 9, 1, 10, 11, 12])], [], [], [], [], [], [], []⟩),
 (26, ⟨[], [], [⟨0, [1, 3, 4], [1]⟩, ⟨2, [1, 3, 4, 5], [1]⟩], [], [], [], [], [], [], [], [], []⟩),
 (27, ⟨[2], [], [⟨0, [0, 3], []⟩], [], [], [], [], [], [], [], [], []⟩),
 (28, ⟨[18, 29], [], [⟨0, [1, 2, 3, 4], [1, 2, 3]⟩], [], [(5, [0, 2, 3, 4, 5, 6, 7, 8, 9, 1, 10, 11, 12])], [8, 25], [], [], [], [26, 27], [], []⟩),
 (29, ⟨[], [], [⟨0, [0, 1, 5], []⟩], [], [], [], [], [], [], [], [], []⟩),
 (30, ⟨[2, 5, 29, 42], [], [⟨0, [0, 3, 4], []⟩, ⟨2, [0, 3, 4, 5, 6], []⟩, ⟨4, [0, 3, 4, 5, 6, 7], []⟩], [], [], [], [], [], [], [], [], []⟩),
 (31, ⟨[6], [], [], [], [], [], [], [], [], [], [], []⟩),
 (32, ⟨[4], [], [], [], [], [], [], [], [], [], [], []⟩),
 (33, ⟨[4], [], [], [], [], [], [], [], [], [], [], []⟩),
 (34, ⟨[6], [], [], [], [], [], [], [], [], [], [], []⟩),
 (35, ⟨[4], [], [], [], [], [], [], [], [], [], [], []⟩),
 (36, ⟨[3], [], [], [], [], [], [], [], [], [], [], []⟩),
 (37, ⟨[4], [], [], [], [], [], [], [], [], [], [], []⟩),
 (38, ⟨[3], [], [], [], [], [], [], [], [], [], [], []⟩),
 (39, ⟨[], [], [⟨0, [0, 3], []⟩], [], [], [], [], [], [], [], [], []⟩),
 (40, ⟨[2], [], [], [], [], [], [], [], [], [], [], []⟩),
 (41, ⟨[6], [], [], [], [], [], [], [], [], [], [], []⟩),
 (42, ⟨[2, 12], [], [⟨0, [0, 3], []⟩], [], [], [], [], [], [], [], [], []⟩),
 (43, ⟨[2, 59], [14, 34], [⟨0, [1, 3, 4, 5], [1, 14]⟩, ⟨2, [1, 3, 4, 6], [1]⟩, ⟨4, [1, 3, 4, 6, 7, 8], [1, 34]⟩, ⟨6, [1, 3, 4, 6, 7, 8, 9], [1, 34]⟩], [], [], [], [], [], [], [], [], []⟩),
 (44, ⟨[4, 18], [], [⟨0, [0, 1, 5], []⟩], [], [], [], [], [], [], [], [], []⟩),
 (45, ⟨[4, 8, 12], [], [], [], [], [], [], [], [], [], [], []⟩),
 (46, ⟨[2, 57], [], [], [], [], [], [], [], [], [], [], []⟩),
 (47, ⟨[4, 17], [], [⟨0, [0, 1, 7, 8], []⟩], [], [], [], [], [], [], [], [], []⟩),
 (48, ⟨[4, 17], [], [⟨0, [0, 1, 7, 8], []⟩], [], [], [], [], [], [], [], [], []⟩),
 (49, ⟨[4], [], [], [], [], [], [], [], [], [], [], []⟩),
 (50, ⟨[8, 50], [], [⟨0, [1, 2, 3, 4, 9, 10], [4]⟩], [], [], [], [], [], [], [], [], []⟩),
 (51, ⟨[4], [], [], [], [], [], [], [], [], [], [], []⟩)]
noncomputable def EE : Env := { P := Try.prog, H := fun f => ((hints.find? (·.1 == f)).map (·.2)).getD ⟨[], [], [], [], [], [], [], [], [], [], [], []⟩, orc := fun g vs => if g = 49 then idxO vs else none }
theorem EP : EE.P = Try.prog := rfl
theorem o49 (s : ByteArray) (c : Int) : EE.orc 49 [.str s, .int .u8 c] = some (.int .i64 (idxB s c)) := by kernel_rfl
theorem h3 : EE.H 3 = ⟨[17, 22, 28, 34, 40], [], [⟨0, [3, 4, 5, 6, 7, 8, 13, 14], [3, 5, 7, 9, 11]⟩], [], [], [], [26, 32, 38, 44], [], [], [], [], []⟩ := by kernel_rfl
theorem o3 (vs : List V) : EE.orc 3 vs = none := by kernel_rfl
theorem h4 : EE.H 4 = ⟨[2], [], [], [], [], [], [], [], [], [], [], []⟩ := by kernel_rfl
theorem o4 (vs : List V) : EE.orc 4 vs = none := by kernel_rfl
theorem h5 : EE.H 5 = ⟨[3, 4], [4], [], [], [], [], [], [], [], [], [], []⟩ := by kernel_rfl
theorem o5 (vs : List V) : EE.orc 5 vs = none := by kernel_rfl
theorem h6 : EE.H 6 = ⟨[], [], [], [], [], [19], [], [], [], [], [], []⟩ := by kernel_rfl
theorem o6 (vs : List V) : EE.orc 6 vs = none := by kernel_rfl
theorem h7 : EE.H 7 = ⟨[27, 40], [], [⟨0, [1, 2, 4, 6, 22, 23], [2, 4, 6]⟩], [], [(7, [0, 2, 3, 4, 5, 6, 7, 8, 9, 10, 1, 11, 12, 13])], [41], [], [], [], [], [], []⟩ := by kernel_rfl
theorem o7 (vs : List V) : EE.orc 7 vs = none := by kernel_rfl
theorem h8 : EE.H 8 = ⟨[8], [], [], [], [], [20], [], [], [], [], [], []⟩ := by kernel_rfl
theorem o8 (vs : List V) : EE.orc 8 vs = none := by kernel_rfl
theorem h9 : EE.H 9 = ⟨[28], [6], [⟨0, [1, 2, 4, 6, 7], [2, 4, 6, 430, 431]⟩], [], [], [20], [], [], [], [], [45], []⟩ := by kernel_rfl
theorem o9 (vs : List V) : EE.orc 9 vs = none := by kernel_rfl
theorem h10 : EE.H 10 = ⟨[], [], [⟨0, [2, 3, 5], [2, 3]⟩, ⟨2, [2, 3, 6], [2, 3]⟩], [], [], [], [], [], [], [], [], []⟩ := by kernel_rfl
theorem o10 (vs : List V) : EE.orc 10 vs = none := by kernel_rfl
theorem h11 : EE.H 11 = ⟨[2, 3, 15, 19], [], [⟨0, [0, 3, 4], []⟩], [], [], [], [], [], [], [], [], []⟩ := by kernel_rfl
theorem o11 (vs : List V) : EE.orc 11 vs = none := by kernel_rfl
theorem h12 : EE.H 12 = ⟨[4, 7], [], [], [], [], [], [], [], [], [], [], []⟩ := by kernel_rfl
theorem o12 (vs : List V) : EE.orc 12 vs = none := by kernel_rfl
theorem h13 : EE.H 13 = ⟨[2], [], [⟨0, [0, 3, 4], []⟩], [], [], [], [], [], [], [], [], []⟩ := by kernel_rfl
theorem o13 (vs : List V) : EE.orc 13 vs = none := by kernel_rfl
theorem h14 : EE.H 14 = ⟨[4], [], [], [], [], [], [], [], [], [], [], []⟩ := by kernel_rfl
theorem o14 (vs : List V) : EE.orc 14 vs = none := by kernel_rfl
theorem h15 : EE.H 15 = ⟨[21, 32], [13, 2000003], [], [], [(4, [0, 1, 2, 4, 5, 6, 3, 7, 8])], [5], [], [], [], [], [], []⟩ := by kernel_rfl
theorem o15 (vs : List V) : EE.orc 15 vs = none := by kernel_rfl
theorem h16 : EE.H 16 = ⟨[2], [], [], [], [], [], [], [], [], [], [], []⟩ := by kernel_rfl
theorem o16 (vs : List V) : EE.orc 16 vs = none := by kernel_rfl
theorem h17 : EE.H 17 = ⟨[8, 21, 32, 39, 40, 44], [], [⟨0, [0, 4, 5, 6, 7], [4, 6]⟩, ⟨2, [0, 4, 5, 6, 7, 8, 9], [4, 6]⟩], [23], [(1000006, [1, 3, 0, 2, 3, 1, 4, 5, 6, 7])], [37, 42], [], [], [], [41, 42], [], []⟩ := by kernel_rfl
theorem o17 (vs : List V) : EE.orc 17 vs = none := by kernel_rfl
theorem h18 : EE.H 18 = ⟨[4, 22], [], [⟨0, [0, 5, 6, 7], []⟩], [], [], [], [], [], [], [], [], []⟩ := by kernel_rfl
theorem o18 (vs : List V) : EE.orc 18 vs = none := by kernel_rfl
theorem h19 : EE.H 19 = ⟨[2], [], [], [], [], [], [], [], [], [], [], []⟩ := by kernel_rfl
theorem o19 (vs : List V) : EE.orc 19 vs = none := by kernel_rfl
theorem h20 : EE.H 20 = ⟨[2], [], [], [], [], [], [], [], [], [], [], []⟩ := by kernel_rfl
theorem o20 (vs : List V) : EE.orc 20 vs = none := by kernel_rfl
theorem h21 : EE.H 21 = ⟨[5, 27, 33, 60, 72, 133, 167, 185, 210, 223, 236, 237, 242], [79, 99], [⟨0, [2, 4, 5, 6, 7], [2, 4, 38]⟩, ⟨2, [2, 4, 5, 6, 7, 54, 55, 56], [2, 4, 38]⟩, ⟨4, [2, 4, 5, 6, 12, 80, 81, 82], [2, 4, 38, 79]⟩, ⟨6, [2, 4, 5, 6, 12, 15], [2, 4, 38]⟩, ⟨8, [2, 4, 5, 6, 12, 15, 16, 17, 100, 101, 102], [2, 4, 38, 96, 99]⟩, ⟨10, [2, 4, 5, 6, 12, 15, 16, 17, 18, 20, 100, 101, 102, 116, 117, 118], [2, 4, 20, 38, 96, 99]⟩, ⟨12, [2, 4, 5, 6, 12, 25, 26, 27, 163, 164], [2, 4, 25, 38, 160]⟩, ⟨14, [2, 4, 5, 6, 12, 25, 26, 190, 191, 192], [2, 4, 25, 38, 160]⟩, ⟨16, [2, 4, 5, 6, 12, 25, 26, 32, 33, 190, 191, 192, 204, 205, 206], [2, 4, 25, 38, 160]⟩], [], [(61, [0, 2, 3, 4, 5, 6, 7, 8, 9, 10, 1, 11, 12, 13])], [220, 233], [], [], [], [238, 239], [], []⟩ := by kernel_rfl
theorem o21 (vs : List V) : EE.orc 21 vs = none := by kernel_rfl
theorem h22 : EE.H 22 = ⟨[6, 25], [], [⟨0, [1, 2, 3, 7], [3]⟩], [], [], [], [], [], [], [], [], []⟩ := by kernel_rfl
theorem o22 (vs : List V) : EE.orc 22 vs = none := by kernel_rfl
theorem h23 : EE.H 23 = ⟨[6, 45], [], [⟨0, [2, 3, 8, 9], [3]⟩], [], [], [], [], [], [], [], [], []⟩ := by kernel_rfl
theorem o23 (vs : List V) : EE.orc 23 vs = none := by kernel_rfl
theorem h24 : EE.H 24 = ⟨[4, 7, 46, 50, 57, 70, 71, 75], [], [⟨0, [1, 2, 3, 4, 5, 6], [1, 2, 5]⟩, ⟨2, [1, 2, 3, 4, 5, 6, 7, 8], [1, 2, 5]⟩], [], [(15, [0, 2, 3, 4, 5, 6, 7, 8, 9, 10, 1, 11, 12, 13])], [55, 67], [], [], [], [72, 73], [], []⟩ := by kernel_rfl
theorem o24 (vs : List V) : EE.orc 24 vs = none := by kernel_rfl
theorem h25 : EE.H 25 = ⟨[7, 22, 38, 50], [], [⟨0, [1, 2, 4, 5, 6], [2, 4, 5]⟩, ⟨2, [1, 2, 4, 5, 6, 7, 8], [2, 4, 5]⟩], [], [(9, [1, 2, 3, 4, 5, 6, 7, 8, 9, 10, 11, 12, 13, 0, 14, 15]), (10, [0, 2, 3, 4, 5, 6, 7, 8, 9, 1, 10, 11, 12])], [], [], [], [], [], [], []⟩ := by kernel_rfl
theorem o25 (vs : List V) : EE.orc 25 vs = none := by kernel_rfl
theorem h26 : EE.H 26 = ⟨[], [], [⟨0, [1, 3, 4], [1]⟩, ⟨2, [1, 3, 4, 5], [1]⟩], [], [], [], [], [], [], [], [], []⟩ := by kernel_rfl
theorem o26 (vs : List V) : EE.orc 26 vs = none := by kernel_rfl
theorem h27 : EE.H 27 = ⟨[2], [], [⟨0, [0, 3], []⟩], [], [], [], [], [], [], [], [], []⟩ := by kernel_rfl
theorem o27 (vs : List V) : EE.orc 27 vs = none := by kernel_rfl
theorem h28 : EE.H 28 = ⟨[18, 29], [], [⟨0, [1, 2, 3, 4], [1, 2, 3]⟩], [], [(5, [0, 2, 3, 4, 5, 6, 7, 8, 9, 1, 10, 11, 12])], [8, 25], [], [], [], [26, 27], [], []⟩ := by kernel_rfl
theorem o28 (vs : List V) : EE.orc 28 vs = none := by kernel_rfl
theorem h29 : EE.H 29 = ⟨[], [], [⟨0, [0, 1, 5], []⟩], [], [], [], [], [], [], [], [], []⟩ := by kernel_rfl
theorem o29 (vs : List V) : EE.orc 29 vs = none := by kernel_rfl
theorem h30 : EE.H 30 = ⟨[2, 5, 29, 42], [], [⟨0, [0, 3, 4], []⟩, ⟨2, [0, 3, 4, 5, 6], []⟩, ⟨4, [0, 3, 4, 5, 6, 7], []⟩], [], [], [], [], [], [], [], [], []⟩ := by kernel_rfl
theorem o30 (vs : List V) : EE.orc 30 vs = none := by kernel_rfl
theorem h31 : EE.H 31 = ⟨[6], [], [], [], [], [], [], [], [], [], [], []⟩ := by kernel_rfl
theorem o31 (vs : List V) : EE.orc 31 vs = none := by kernel_rfl
theorem h32 : EE.H 32 = ⟨[4], [], [], [], [], [], [], [], [], [], [], []⟩ := by kernel_rfl
theorem o32 (vs : List V) : EE.orc 32 vs = none := by kernel_rfl
theorem h33 : EE.H 33 = ⟨[4], [], [], [], [], [], [], [], [], [], [], []⟩ := by kernel_rfl
theorem o33 (vs : List V) : EE.orc 33 vs = none := by kernel_rfl
theorem h34 : EE.H 34 = ⟨[6], [], [], [], [], [], [], [], [], [], [], []⟩ := by kernel_rfl
theorem o34 (vs : List V) : EE.orc 34 vs = none := by kernel_rfl
theorem h35 : EE.H 35 = ⟨[4], [], [], [], [], [], [], [], [], [], [], []⟩ := by kernel_rfl
theorem o35 (vs : List V) : EE.orc 35 vs = none := by kernel_rfl
theorem h36 : EE.H 36 = ⟨[3], [], [], [], [], [], [], [], [], [], [], []⟩ := by kernel_rfl
theorem o36 (vs : List V) : EE.orc 36 vs = none := by kernel_rfl
theorem h37 : EE.H 37 = ⟨[4], [], [], [], [], [], [], [], [], [], [], []⟩ := by kernel_rfl
theorem o37 (vs : List V) : EE.orc 37 vs = none := by kernel_rfl
theorem h38 : EE.H 38 = ⟨[3], [], [], [], [], [], [], [], [], [], [], []⟩ := by kernel_rfl
theorem o38 (vs : List V) : EE.orc 38 vs = none := by kernel_rfl
theorem h39 : EE.H 39 = ⟨[], [], [⟨0, [0, 3], []⟩], [], [], [], [], [], [], [], [], []⟩ := by kernel_rfl
theorem o39 (vs : List V) : EE.orc 39 vs = none := by kernel_rfl
theorem h40 : EE.H 40 = ⟨[2], [], [], [], [], [], [], [], [], [], [], []⟩ := by kernel_rfl
theorem o40 (vs : List V) : EE.orc 40 vs = none := by kernel_rfl
theorem h41 : EE.H 41 = ⟨[6], [], [], [], [], [], [], [], [], [], [], []⟩ := by kernel_rfl
theorem o41 (vs : List V) : EE.orc 41 vs = none := by kernel_rfl
theorem h42 : EE.H 42 = ⟨[2, 12], [], [⟨0, [0, 3], []⟩], [], [], [], [], [], [], [], [], []⟩ := by kernel_rfl
theorem o42 (vs : List V) : EE.orc 42 vs = none := by kernel_rfl
theorem h43 : EE.H 43 = ⟨[2, 59], [14, 34], [⟨0, [1, 3, 4, 5], [1, 14]⟩, ⟨2, [1, 3, 4, 6], [1]⟩, ⟨4, [1, 3, 4, 6, 7, 8], [1, 34]⟩, ⟨6, [1, 3, 4, 6, 7, 8, 9], [1, 34]⟩], [], [], [], [], [], [], [], [], []⟩ := by kernel_rfl
theorem o43 (vs : List V) : EE.orc 43 vs = none := by kernel_rfl
theorem h44 : EE.H 44 = ⟨[4, 18], [], [⟨0, [0, 1, 5], []⟩], [], [], [], [], [], [], [], [], []⟩ := by kernel_rfl
theorem o44 (vs : List V) : EE.orc 44 vs = none := by kernel_rfl
theorem h45 : EE.H 45 = ⟨[4, 8, 12], [], [], [], [], [], [], [], [], [], [], []⟩ := by kernel_rfl
theorem o45 (vs : List V) : EE.orc 45 vs = none := by kernel_rfl
theorem h46 : EE.H 46 = ⟨[2, 57], [], [], [], [], [], [], [], [], [], [], []⟩ := by kernel_rfl
theorem o46 (vs : List V) : EE.orc 46 vs = none := by kernel_rfl
theorem h47 : EE.H 47 = ⟨[4, 17], [], [⟨0, [0, 1, 7, 8], []⟩], [], [], [], [], [], [], [], [], []⟩ := by kernel_rfl
theorem o47 (vs : List V) : EE.orc 47 vs = none := by kernel_rfl
theorem h48 : EE.H 48 = ⟨[4, 17], [], [⟨0, [0, 1, 7, 8], []⟩], [], [], [], [], [], [], [], [], []⟩ := by kernel_rfl
theorem o48 (vs : List V) : EE.orc 48 vs = none := by kernel_rfl
theorem h49 : EE.H 49 = ⟨[4], [], [], [], [], [], [], [], [], [], [], []⟩ := by kernel_rfl
theorem h50 : EE.H 50 = ⟨[8, 50], [], [⟨0, [1, 2, 3, 4, 9, 10], [4]⟩], [], [], [], [], [], [], [], [], []⟩ := by kernel_rfl
theorem o50 (vs : List V) : EE.orc 50 vs = none := by kernel_rfl
theorem h51 : EE.H 51 = ⟨[4], [], [], [], [], [], [], [], [], [], [], []⟩ := by kernel_rfl
theorem o51 (vs : List V) : EE.orc 51 vs = none := by kernel_rfl
attribute [go_sem] EP h3 o3 h4 o4 h5 o5 h6 o6 h7 o7 h8 o8 h9 o9 h10 o10 h11 o11 h12 o12 h13 o13 h14 o14 h15 o15 h16 o16 h17 o17 h18 o18 h19 o19 h20 o20 h21 o21 h22 o22 h23 o23 h24 o24 h25 o25 h26 o26 h27 o27 h28 o28 h29 o29 h30 o30 h31 o31 h32 o32 h33 o33 h34 o34 h35 o35 h36 o36 h37 o37 h38 o38 h39 o39 h40 o40 h41 o41 h42 o42 h43 o43 h44 o44 h45 o45 h46 o46 h47 o47 h48 o48 h49 o49 h50 o50 h51 o51
end Go.Ev
namespace Go.Ev
open Go Go.Proofs
set_option maxRecDepth 10000
theorem ix48_1 (l : List Int) (hl : l.length ≤ 9223372036854775806) (p : Int → Bool) (g : Nat) (a : Nat) (os : List (Nat → Option Ob)) (ho : os.length ≠ 0) (hp : ∀ x ∈ l, ∀ b0 : Nat → Option Ob, run EE g (I x :: [.ptr 0 a 0]) (b0 :: os) = some (.bool (p x), b0 :: os)) (hu : (EE.H g).uniq = [] := by kernel_rfl) : run EE 48 [.slc false 1 (l.map I), .fn g [.ptr 0 a 0]] os = some (.int .i64 (posP p l 0), os) := by
 have ho2 : (0 != os.length) = true := by simp; omega
 rw [run_eq EE 48 _ _ Try.func48 (by decide +kernel) rfl (show 2 ≤ _ by decide)]
 dsimp only [Try.f48]
 simp only [go_sem, ho, ho2, hu, Bool.not_false, Bool.true_or, Bool.and_self]
 refine iter_inv (fun i : Nat => i ≤ l.length) (fun i => { t := upd (upd (upd (upd e0 8 (.int .i64 i)) 7 (.int .i64 l.length)) 1 (.fn g [.ptr 0 a 0])) 0 (.slc false 1 (l.map I)), b := n0, o := os, r := #[ResultVar.tmp 4], f := 48, n := 19 }) (fun i => some (.int .i64 (posP p (l.drop i) i), os)) (fun i => l.length - i) ?_ 0 (Nat.zero_le _)
 intro i hi ih
 by_cases h : i < l.length
 · have h1 : (i : Int) < l.length := by omega
   have w := wrap_nat (n := i) (by omega)
   have hx := hp l[i] (List.getElem_mem h) n0
   rw [List.drop_eq_getElem_cons h, posP]
   generalize p l[i] = q at hx ⊢
   try simp only [Rx.enc_eq, Vals.enc, Mor.enc, Sta.enc, Con.enc, Line.enc, Ans.enc, Prob.enc, Prog.enc, Ses.enc, Equ.enc, Mon.enc, Frm.enc, Mov.enc, Stp.enc, Dfa.enc, IL, I, B] at hx
   simp only [go_sem, h1, w, getD_map h, ho, ho2, hu, hx]
   cases q
   · simp only [go_sem, w, ho, ho2, hu, Bool.false_eq_true, if_false]
     exact ih (i + 1) (by omega) (by omega)
   · simp only [go_sem, if_true]
 · have h1 : ¬ (i : Int) < l.length := by omega
   rw [List.drop_eq_nil_of_le (by omega)]
   simp only [go_sem, h1, posP]
theorem cf37_1 (l : List Int) (hl : l.length ≤ 9223372036854775806) (p : Int → Bool) (g : Nat) (a : Nat) (os : List (Nat → Option Ob)) (ho : os.length ≠ 0) (hp : ∀ x ∈ l, ∀ b0 b1 : Nat → Option Ob, run EE g (I x :: [.ptr 0 a 0]) (b0 :: b1 :: os) = some (.bool (p x), b0 :: b1 :: os)) (hu : (EE.H g).uniq = [] := by kernel_rfl) : run EE 37 [.slc false 1 (l.map I), .fn g [.ptr 0 a 0]] os = some (.bool (l.any p), os) := by
 have hi := ix48_1 l hl p g a (n0 :: os) (by simp) (fun x hx b0 => hp x hx b0 n0) hu
 rw [run_eq EE 37 _ _ Try.func37 (by decide +kernel) rfl (show 2 ≤ _ by decide)]
 dsimp only [Try.f37]
 simp only [go_sem, ho, hu, hi, Bool.not_false, Bool.true_or, Bool.and_self]
 rw [← posP_any p l 0]

theorem ix47_1 (l : List (List Int)) (hl : l.length ≤ 9223372036854775806) (p : (List Int) → Bool) (g : Nat) (a : Nat) (os : List (Nat → Option Ob)) (ho : os.length ≠ 0) (hp : ∀ x ∈ l, ∀ b0 : Nat → Option Ob, run EE g (IL x :: [.ptr 0 a 0]) (b0 :: os) = some (.bool (p x), b0 :: os)) (hu : (EE.H g).uniq = [] := by kernel_rfl) : run EE 47 [.slc false 1 (l.map IL), .fn g [.ptr 0 a 0]] os = some (.int .i64 (posP p l 0), os) := by
 have ho2 : (0 != os.length) = true := by simp; omega
 rw [run_eq EE 47 _ _ Try.func47 (by decide +kernel) rfl (show 2 ≤ _ by decide)]
 dsimp only [Try.f47]
 simp only [go_sem, ho, ho2, hu, Bool.not_false, Bool.true_or, Bool.and_self]
 refine iter_inv (fun i : Nat => i ≤ l.length) (fun i => { t := upd (upd (upd (upd e0 8 (.int .i64 i)) 7 (.int .i64 l.length)) 1 (.fn g [.ptr 0 a 0])) 0 (.slc false 1 (l.map IL)), b := n0, o := os, r := #[ResultVar.tmp 4], f := 47, n := 19 }) (fun i => some (.int .i64 (posP p (l.drop i) i), os)) (fun i => l.length - i) ?_ 0 (Nat.zero_le _)
 intro i hi ih
 by_cases h : i < l.length
 · have h1 : (i : Int) < l.length := by omega
   have w := wrap_nat (n := i) (by omega)
   have hx := hp l[i] (List.getElem_mem h) n0
   rw [List.drop_eq_getElem_cons h, posP]
   generalize p l[i] = q at hx ⊢
   try simp only [Rx.enc_eq, Vals.enc, Mor.enc, Sta.enc, Con.enc, Line.enc, Ans.enc, Prob.enc, Prog.enc, Ses.enc, Equ.enc, Mon.enc, Frm.enc, Mov.enc, Stp.enc, Dfa.enc, IL, I, B] at hx
   simp only [go_sem, h1, w, getD_map h, ho, ho2, hu, hx]
   cases q
   · simp only [go_sem, w, ho, ho2, hu, Bool.false_eq_true, if_false]
     exact ih (i + 1) (by omega) (by omega)
   · simp only [go_sem, if_true]
 · have h1 : ¬ (i : Int) < l.length := by omega
   rw [List.drop_eq_nil_of_le (by omega)]
   simp only [go_sem, h1, posP]
theorem cf35_1 (l : List (List Int)) (hl : l.length ≤ 9223372036854775806) (p : (List Int) → Bool) (g : Nat) (a : Nat) (os : List (Nat → Option Ob)) (ho : os.length ≠ 0) (hp : ∀ x ∈ l, ∀ b0 b1 : Nat → Option Ob, run EE g (IL x :: [.ptr 0 a 0]) (b0 :: b1 :: os) = some (.bool (p x), b0 :: b1 :: os)) (hu : (EE.H g).uniq = [] := by kernel_rfl) : run EE 35 [.slc false 1 (l.map IL), .fn g [.ptr 0 a 0]] os = some (.bool (l.any p), os) := by
 have hi := ix47_1 l hl p g a (n0 :: os) (by simp) (fun x hx b0 => hp x hx b0 n0) hu
 rw [run_eq EE 35 _ _ Try.func35 (by decide +kernel) rfl (show 2 ≤ _ by decide)]
 dsimp only [Try.f35]
 simp only [go_sem, ho, hu, hi, Bool.not_false, Bool.true_or, Bool.and_self]
 rw [← posP_any p l 0]
end Go.Ev
namespace Go.Ev
open Go Go.Proofs
set_option maxRecDepth 10000

theorem r40 (c : Int) (h : 0 ≤ c) (h' : c < 256) : run EE 40 [.int .u8 c] [] = some (.int .i64 (ltr c), []) := by
 rw [run_eq EE 40 _ _ Try.func40 (by decide +kernel) rfl (show 1 ≤ _ by decide)]
 dsimp only [Try.f40]
 simp only [go_sem, o49, idx_abc c h h']
theorem r42 (c : Int) : run EE 42 [.int .u8 c] [] = some (.int .i64 (ltr c), []) := by
 rw [run_eq EE 42 _ _ Try.func42 (by decide +kernel) rfl (show 1 ≤ _ by decide)]
 dsimp only [Try.f42]
 have b0 : bt ⟨#[97, 98, 99]⟩ 0 = 97 := by decide +kernel
 have b1 : bt ⟨#[97, 98, 99]⟩ 1 = 98 := by decide +kernel
 have b2 : bt ⟨#[97, 98, 99]⟩ 2 = 99 := by decide +kernel
 have hz : ByteArray.size ⟨#[97, 98, 99]⟩ = 3 := by decide
 simp only [go_sem, iter_eq, b0, hz]
 refine condL_bool (fun k => ?_) (fun k => ?_)
 · have e : c = 97 := by have := eq_of_beq k; omega
   subst e
   simp only [go_sem, ltr]
 · have e : ¬ c = 97 := by intro e; subst e; cases k
   simp only [go_sem, iter_eq, b1, hz]
   refine condL_bool (fun k => ?_) (fun k => ?_)
   · have e' : c = 98 := by have := eq_of_beq k; omega
     subst e'
     simp only [go_sem, ltr]
   · have e' : ¬ c = 98 := by intro e; subst e; cases k
     simp only [go_sem, iter_eq, b2, hz]
     refine condL_bool (fun k => ?_) (fun k => ?_)
     · have e'' : c = 99 := by have := eq_of_beq k; omega
       subst e''
       simp only [go_sem, ltr]
     · have e'' : ¬ c = 99 := by intro e; subst e; cases k
       simp only [go_sem, iter_eq, ltr, e, e', e'']
theorem r41 (a b c : Int) : run EE 41 [.int .i64 a, .int .i64 b, .int .i64 c] [] = some (.bool (decide (b ≤ a) && decide (a ≤ c)), []) := by
 rw [run_eq EE 41 _ _ Try.func41 (by decide +kernel) rfl (show 3 ≤ _ by decide)]
 dsimp only [Try.f41]
 simp only [go_sem]
 refine guardL_bool (fun k => ?_) (fun k => ?_) <;> simp only [go_sem, k, ge_iff_le, Bool.true_and, Bool.false_and] at k ⊢ <;> simp only [go_sem, k, Bool.true_and, Bool.false_and]
theorem r34 (a b c : Int) : run EE 34 [.int .i64 a, .int .i64 b, .int .i64 c] [] = some (.bool (decide (b ≤ a) && decide (a ≤ c)), []) := by
 rw [run_eq EE 34 _ _ Try.func34 (by decide +kernel) rfl (show 3 ≤ _ by decide)]
 dsimp only [Try.f34]
 simp only [go_sem]
 refine guardL_bool (fun k => ?_) (fun k => ?_) <;> simp only [go_sem, k, ge_iff_le, Bool.true_and, Bool.false_and] at k ⊢ <;> simp only [go_sem, k, Bool.true_and, Bool.false_and]
end Go.Ev
namespace Go.Ev
open Go Go.Proofs
set_option maxRecDepth 10000

theorem r38 (q n : Int) (a : Nat) (os : List (Nat → Option Ob)) (ho : os.length ≠ 0) (hob : obIn a 0 os = some (.box [.int .i64 n])) (h0 : 0 ≤ n) (h1 : n ≤ 1048576) : run EE 38 [.int .i64 q, .ptr 0 a 0] os = some (.bool (!(decide (0 ≤ q) && decide (q ≤ n - 1))), os) := by
 have w := wrap_in (n := n - 1) (by omega) (by omega)
 have f := r34 q 0 (n - 1)
 have ho' : ¬ 0 = os.length := fun e => ho e.symm
 rw [run_eq EE 38 _ _ Try.func38 (by decide +kernel) rfl (show 2 ≤ _ by decide)]
 dsimp only [Try.f38]
 simp only [go_sem, ho', hob, w, f]
theorem r36 (row : List Int) (hl : row.length ≤ 1048576) (n : Int) (a : Nat) (os : List (Nat → Option Ob)) (ho : os.length ≠ 0) (hob : obIn a 0 os = some (.box [.int .i64 n])) (h0 : 0 ≤ n) (h1 : n ≤ 1048576) : run EE 36 [IL row, .ptr 0 a 0] os = some (.bool (!rowOk n row), os) := by
 have f := cf37_1 row (by omega) (fun q => !(decide (0 ≤ q) && decide (q ≤ n - 1))) 38 a (n0 :: os) (by simp) (fun x _ b0 b1 => r38 x n a _ (by simp) (by rw [obIn_cons (by simp), obIn_cons (by simp), obIn_cons ho]; exact hob) h0 h1)
 rw [any_not] at f
 rw [run_eq EE 36 _ _ Try.func36 (by decide +kernel) rfl (show 2 ≤ _ by decide)]
 dsimp only [Try.f36]
 unfold rowOk
 cases k : ((row.length : Int) == 3)
 · simp only [go_sem, bne, k, Bool.not_false, Bool.false_and]
 · simp only [go_sem, bne, k, f, Bool.not_true, Bool.not_false, Bool.true_and]
theorem r19 (d : Dfa) (h1 : d.accept.length ≤ 1048576) (h2 : d.next.length ≤ 1048576) (h3 : ∀ r ∈ d.next, r.length ≤ 1048576) : run EE 19 [d.enc] [] = some (.bool (validD d), []) := by
 have wi := r34 d.accept.length 1 40
 rw [run_eq EE 19 _ _ Try.func19 (by decide +kernel) rfl (show 1 ≤ _ by decide)]
 dsimp only [Try.f19]
 unfold validD
 cases k1 : (decide (1 ≤ (d.accept.length : Int)) && decide ((d.accept.length : Int) ≤ 40))
 · rw [k1] at wi
   simp only [go_sem, wi, Bool.not_false, Bool.false_and]
 rw [k1] at wi
 cases k2 : ((d.next.length : Int) == d.accept.length)
 · simp only [go_sem, wi, bne, k2, Bool.not_true, Bool.not_false, Bool.true_and, Bool.false_and]
 have f := fun (b : Nat → Option Ob) (hb : b 3 = some (.box [.int .i64 (d.accept.length : Int)])) => cf35_1 d.next (by omega) (fun row => !rowOk d.accept.length row) 36 3 [b] (by simp) (fun x hx b0 b1 => r36 x (h3 x hx) d.accept.length 3 _ (by simp) hb (by omega) (by omega))
 simp only [any_not] at f
 simp only [go_sem, wi, bne, k2, Bool.not_true, Bool.not_false, Bool.true_and]
 rw [f _ rfl]
 simp only [go_sem, Bool.not_not]
end Go.Ev
