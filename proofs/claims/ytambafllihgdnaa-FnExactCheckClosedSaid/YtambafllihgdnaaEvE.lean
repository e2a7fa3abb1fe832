/- Facts on the seat's types, printed by a program. What the evaluator is told of the functions, printed by a program. Searches. Leaves: letters, ranges. Monoids' validity; states. Monoids' validity, the program's; states compared. States: equality, search, solved. Leaves: letters, variables, sides. Strings: scans, the common beginning, replacements. Equations: clashes and moves. Moves. Start states, the reference's. Start states, the reference's. Start states, the program's. Steps of a state, the reference's. -/
import Derived.Test.YtambafllihgdnaaProg
import Derived.Test.YtambafllihgdnaaEvD
set_option linter.unusedVariables false
set_option linter.unusedSimpArgs false
namespace Go.Ev
open Go Go.Proofs
set_option maxRecDepth 10000
theorem sz1 : szOf Try.prog 1 = 1 := by kernel_rfl
theorem ag1 : isAgg Try.prog 1 = false := by kernel_rfl
theorem ze1 : zero Try.prog 1 = some [V.nilfn] := by kernel_rfl
theorem u2 : Try.prog.underlying 2 = some (.int .i64) := by kernel_rfl
theorem sz2 : szOf Try.prog 2 = 1 := by kernel_rfl
theorem ag2 : isAgg Try.prog 2 = false := by kernel_rfl
theorem ze2 : zero Try.prog 2 = some [V.int .i64 0] := by kernel_rfl
theorem u3 : Try.prog.underlying 3 = some (.int .i64) := by kernel_rfl
theorem sz3 : szOf Try.prog 3 = 1 := by kernel_rfl
theorem ag3 : isAgg Try.prog 3 = false := by kernel_rfl
theorem ze3 : zero Try.prog 3 = some [V.int .i64 0] := by kernel_rfl
theorem u4 : Try.prog.underlying 4 = some .bool := by kernel_rfl
theorem sz4 : szOf Try.prog 4 = 1 := by kernel_rfl
theorem ag4 : isAgg Try.prog 4 = false := by kernel_rfl
theorem ze4 : zero Try.prog 4 = some [V.bool false] := by kernel_rfl
theorem ev4 (x y : Bool) : eqV Try.prog 4 (.bool x) (.bool y) = some (x == y) := by kernel_rfl
theorem u5 : Try.prog.underlying 5 = some (.int .u8) := by kernel_rfl
theorem sz5 : szOf Try.prog 5 = 1 := by kernel_rfl
theorem ag5 : isAgg Try.prog 5 = false := by kernel_rfl
theorem ze5 : zero Try.prog 5 = some [V.int .u8 0] := by kernel_rfl
theorem u6 : Try.prog.underlying 6 = some (.int .u8) := by kernel_rfl
theorem sz6 : szOf Try.prog 6 = 1 := by kernel_rfl
theorem ag6 : isAgg Try.prog 6 = false := by kernel_rfl
theorem ze6 : zero Try.prog 6 = some [V.int .u8 0] := by kernel_rfl
theorem sz7 : szOf Try.prog 7 = 4 := by kernel_rfl
theorem ag7 : isAgg Try.prog 7 = true := by kernel_rfl
theorem ze7 : zero Try.prog 7 = some [V.int .i64 0, V.int .i64 0, V.bool false, V.int .u8 0] := by kernel_rfl
theorem la7 : layOf Try.prog 7 = some [(2, 0, 1), (3, 1, 1), (4, 2, 1), (6, 3, 1)] := by kernel_rfl
theorem bd7 (H : Hint) (d : Nat) (ty : TypeId) (ps : Array (Nat × Operand)) (s : St) : evV Try.prog H d ty (.build 7 ps) s = aggO (buildL Try.prog [(2, 0, 1), (3, 1, 1), (4, 2, 1), (6, 3, 1)] s [V.int .i64 0, V.int .i64 0, V.bool false, V.int .u8 0] ps.toList) := build_lay la7 ze7
theorem xb7 (H : Hint) (d : Nat) (ty : TypeId) (ps : Array (Nat × Operand)) (pos : String) (aft : Array Edge) (g : Option (Nat × Bool)) : isX Try.prog H { dst := some d, op := .build 7 ps, type := ty, pos := pos, after := aft, guard := g } = true := by kernel_rfl
theorem fa7_0 (v : V) : vFieldAddr Try.prog 7 0 v = faddr 0 v := by kernel_rfl
theorem fg7_0 (s : St) (v : V) : vField Try.prog s 7 0 v = fget 0 1 false v := by kernel_rfl
theorem fa7_1 (v : V) : vFieldAddr Try.prog 7 1 v = faddr 1 v := by kernel_rfl
theorem fg7_1 (s : St) (v : V) : vField Try.prog s 7 1 v = fget 1 1 false v := by kernel_rfl
theorem fa7_2 (v : V) : vFieldAddr Try.prog 7 2 v = faddr 2 v := by kernel_rfl
theorem fg7_2 (s : St) (v : V) : vField Try.prog s 7 2 v = fget 2 1 false v := by kernel_rfl
theorem fa7_3 (v : V) : vFieldAddr Try.prog 7 3 v = faddr 3 v := by kernel_rfl
theorem fg7_3 (s : St) (v : V) : vField Try.prog s 7 3 v = fget 3 1 false v := by kernel_rfl
theorem sz8 : szOf Try.prog 8 = 4 := by kernel_rfl
theorem ag8 : isAgg Try.prog 8 = true := by kernel_rfl
theorem ze8 : zero Try.prog 8 = some [V.int .i64 0, V.int .i64 0, V.bool false, V.int .u8 0] := by kernel_rfl
theorem la8 : layOf Try.prog 8 = some [(2, 0, 1), (3, 1, 1), (4, 2, 1), (6, 3, 1)] := by kernel_rfl
theorem bd8 (H : Hint) (d : Nat) (ty : TypeId) (ps : Array (Nat × Operand)) (s : St) : evV Try.prog H d ty (.build 8 ps) s = aggO (buildL Try.prog [(2, 0, 1), (3, 1, 1), (4, 2, 1), (6, 3, 1)] s [V.int .i64 0, V.int .i64 0, V.bool false, V.int .u8 0] ps.toList) := build_lay la8 ze8
theorem xb8 (H : Hint) (d : Nat) (ty : TypeId) (ps : Array (Nat × Operand)) (pos : String) (aft : Array Edge) (g : Option (Nat × Bool)) : isX Try.prog H { dst := some d, op := .build 8 ps, type := ty, pos := pos, after := aft, guard := g } = true := by kernel_rfl
theorem fa8_0 (v : V) : vFieldAddr Try.prog 8 0 v = faddr 0 v := by kernel_rfl
theorem fg8_0 (s : St) (v : V) : vField Try.prog s 8 0 v = fget 0 1 false v := by kernel_rfl
theorem fa8_1 (v : V) : vFieldAddr Try.prog 8 1 v = faddr 1 v := by kernel_rfl
theorem fg8_1 (s : St) (v : V) : vField Try.prog s 8 1 v = fget 1 1 false v := by kernel_rfl
theorem fa8_2 (v : V) : vFieldAddr Try.prog 8 2 v = faddr 2 v := by kernel_rfl
theorem fg8_2 (s : St) (v : V) : vField Try.prog s 8 2 v = fget 2 1 false v := by kernel_rfl
theorem fa8_3 (v : V) : vFieldAddr Try.prog 8 3 v = faddr 3 v := by kernel_rfl
theorem fg8_3 (s : St) (v : V) : vField Try.prog s 8 3 v = fget 3 1 false v := by kernel_rfl
theorem u9 : Try.prog.underlying 9 = some .string := by kernel_rfl
theorem sz9 : szOf Try.prog 9 = 1 := by kernel_rfl
theorem ag9 : isAgg Try.prog 9 = false := by kernel_rfl
theorem ze9 : zero Try.prog 9 = some [V.str ⟨#[]⟩] := by kernel_rfl
theorem u10 : Try.prog.underlying 10 = some .string := by kernel_rfl
theorem sz10 : szOf Try.prog 10 = 1 := by kernel_rfl
theorem ag10 : isAgg Try.prog 10 = false := by kernel_rfl
theorem ze10 : zero Try.prog 10 = some [V.str ⟨#[]⟩] := by kernel_rfl
theorem u11 : Try.prog.underlying 11 = some .string := by kernel_rfl
theorem sz11 : szOf Try.prog 11 = 1 := by kernel_rfl
theorem ag11 : isAgg Try.prog 11 = false := by kernel_rfl
theorem ze11 : zero Try.prog 11 = some [V.str ⟨#[]⟩] := by kernel_rfl
theorem u12 : Try.prog.underlying 12 = some (.int .u64) := by kernel_rfl
theorem sz12 : szOf Try.prog 12 = 1 := by kernel_rfl
theorem ag12 : isAgg Try.prog 12 = false := by kernel_rfl
theorem ze12 : zero Try.prog 12 = some [V.int .u64 0] := by kernel_rfl
theorem sz13 : szOf Try.prog 13 = 2 := by kernel_rfl
theorem ag13 : isAgg Try.prog 13 = true := by kernel_rfl
theorem ze13 : zero Try.prog 13 = some [V.str ⟨#[]⟩, V.int .u64 0] := by kernel_rfl
theorem la13 : layOf Try.prog 13 = some [(9, 0, 1), (12, 1, 1)] := by kernel_rfl
theorem bd13 (H : Hint) (d : Nat) (ty : TypeId) (ps : Array (Nat × Operand)) (s : St) : evV Try.prog H d ty (.build 13 ps) s = aggO (buildL Try.prog [(9, 0, 1), (12, 1, 1)] s [V.str ⟨#[]⟩, V.int .u64 0] ps.toList) := build_lay la13 ze13
theorem xb13 (H : Hint) (d : Nat) (ty : TypeId) (ps : Array (Nat × Operand)) (pos : String) (aft : Array Edge) (g : Option (Nat × Bool)) : isX Try.prog H { dst := some d, op := .build 13 ps, type := ty, pos := pos, after := aft, guard := g } = true := by kernel_rfl
theorem fa13_0 (v : V) : vFieldAddr Try.prog 13 0 v = faddr 0 v := by kernel_rfl
theorem fg13_0 (s : St) (v : V) : vField Try.prog s 13 0 v = fget 0 1 false v := by kernel_rfl
theorem fa13_1 (v : V) : vFieldAddr Try.prog 13 1 v = faddr 1 v := by kernel_rfl
theorem fg13_1 (s : St) (v : V) : vField Try.prog s 13 1 v = fget 1 1 false v := by kernel_rfl
theorem sz14 : szOf Try.prog 14 = 2 := by kernel_rfl
theorem ag14 : isAgg Try.prog 14 = true := by kernel_rfl
theorem ze14 : zero Try.prog 14 = some [V.str ⟨#[]⟩, V.int .u64 0] := by kernel_rfl
theorem la14 : layOf Try.prog 14 = some [(9, 0, 1), (12, 1, 1)] := by kernel_rfl
theorem bd14 (H : Hint) (d : Nat) (ty : TypeId) (ps : Array (Nat × Operand)) (s : St) : evV Try.prog H d ty (.build 14 ps) s = aggO (buildL Try.prog [(9, 0, 1), (12, 1, 1)] s [V.str ⟨#[]⟩, V.int .u64 0] ps.toList) := build_lay la14 ze14
theorem xb14 (H : Hint) (d : Nat) (ty : TypeId) (ps : Array (Nat × Operand)) (pos : String) (aft : Array Edge) (g : Option (Nat × Bool)) : isX Try.prog H { dst := some d, op := .build 14 ps, type := ty, pos := pos, after := aft, guard := g } = true := by kernel_rfl
theorem fa14_0 (v : V) : vFieldAddr Try.prog 14 0 v = faddr 0 v := by kernel_rfl
theorem fg14_0 (s : St) (v : V) : vField Try.prog s 14 0 v = fget 0 1 false v := by kernel_rfl
theorem fa14_1 (v : V) : vFieldAddr Try.prog 14 1 v = faddr 1 v := by kernel_rfl
theorem fg14_1 (s : St) (v : V) : vField Try.prog s 14 1 v = fget 1 1 false v := by kernel_rfl
theorem u15 : Try.prog.underlying 15 = some (.pointer 108) := by kernel_rfl
theorem sz15 : szOf Try.prog 15 = 1 := by kernel_rfl
theorem ag15 : isAgg Try.prog 15 = false := by kernel_rfl
theorem ze15 : zero Try.prog 15 = some [V.nilp] := by kernel_rfl
theorem u16 : Try.prog.underlying 16 = some (.pointer 111) := by kernel_rfl
theorem sz16 : szOf Try.prog 16 = 1 := by kernel_rfl
theorem ag16 : isAgg Try.prog 16 = false := by kernel_rfl
theorem ze16 : zero Try.prog 16 = some [V.nilp] := by kernel_rfl
theorem u17 : Try.prog.underlying 17 = some (.pointer 121) := by kernel_rfl
theorem sz17 : szOf Try.prog 17 = 1 := by kernel_rfl
theorem ag17 : isAgg Try.prog 17 = false := by kernel_rfl
theorem ze17 : zero Try.prog 17 = some [V.nilp] := by kernel_rfl
theorem sz18 : szOf Try.prog 18 = 1 := by kernel_rfl
theorem ag18 : isAgg Try.prog 18 = true := by kernel_rfl
theorem ze18 : zero Try.prog 18 = some [V.nilp] := by kernel_rfl
theorem la18 : layOf Try.prog 18 = some [(17, 0, 1)] := by kernel_rfl
theorem bd18 (H : Hint) (d : Nat) (ty : TypeId) (ps : Array (Nat × Operand)) (s : St) : evV Try.prog H d ty (.build 18 ps) s = aggO (buildL Try.prog [(17, 0, 1)] s [V.nilp] ps.toList) := build_lay la18 ze18
theorem xb18 (H : Hint) (d : Nat) (ty : TypeId) (ps : Array (Nat × Operand)) (pos : String) (aft : Array Edge) (g : Option (Nat × Bool)) : isX Try.prog H { dst := some d, op := .build 18 ps, type := ty, pos := pos, after := aft, guard := g } = true := by kernel_rfl
theorem fa18_0 (v : V) : vFieldAddr Try.prog 18 0 v = faddr 0 v := by kernel_rfl
theorem fg18_0 (s : St) (v : V) : vField Try.prog s 18 0 v = fget 0 1 false v := by kernel_rfl
theorem sz19 : szOf Try.prog 19 = 1 := by kernel_rfl
theorem ag19 : isAgg Try.prog 19 = true := by kernel_rfl
theorem ze19 : zero Try.prog 19 = some [V.nilp] := by kernel_rfl
theorem la19 : layOf Try.prog 19 = some [(17, 0, 1)] := by kernel_rfl
theorem bd19 (H : Hint) (d : Nat) (ty : TypeId) (ps : Array (Nat × Operand)) (s : St) : evV Try.prog H d ty (.build 19 ps) s = aggO (buildL Try.prog [(17, 0, 1)] s [V.nilp] ps.toList) := build_lay la19 ze19
theorem xb19 (H : Hint) (d : Nat) (ty : TypeId) (ps : Array (Nat × Operand)) (pos : String) (aft : Array Edge) (g : Option (Nat × Bool)) : isX Try.prog H { dst := some d, op := .build 19 ps, type := ty, pos := pos, after := aft, guard := g } = true := by kernel_rfl
theorem fa19_0 (v : V) : vFieldAddr Try.prog 19 0 v = faddr 0 v := by kernel_rfl
theorem fg19_0 (s : St) (v : V) : vField Try.prog s 19 0 v = fget 0 1 false v := by kernel_rfl
theorem u21 : Try.prog.underlying 21 = some (.int .i32) := by kernel_rfl
theorem sz21 : szOf Try.prog 21 = 1 := by kernel_rfl
theorem ag21 : isAgg Try.prog 21 = false := by kernel_rfl
theorem ze21 : zero Try.prog 21 = some [V.int .i32 0] := by kernel_rfl
theorem sz22 : szOf Try.prog 22 = 2 := by kernel_rfl
theorem ag22 : isAgg Try.prog 22 = true := by kernel_rfl
theorem ze22 : zero Try.prog 22 = some [V.str ⟨#[]⟩, V.str ⟨#[]⟩] := by kernel_rfl
theorem la22 : layOf Try.prog 22 = some [(9, 0, 1), (9, 1, 1)] := by kernel_rfl
theorem bd22 (H : Hint) (d : Nat) (ty : TypeId) (ps : Array (Nat × Operand)) (s : St) : evV Try.prog H d ty (.build 22 ps) s = aggO (buildL Try.prog [(9, 0, 1), (9, 1, 1)] s [V.str ⟨#[]⟩, V.str ⟨#[]⟩] ps.toList) := build_lay la22 ze22
theorem xb22 (H : Hint) (d : Nat) (ty : TypeId) (ps : Array (Nat × Operand)) (pos : String) (aft : Array Edge) (g : Option (Nat × Bool)) : isX Try.prog H { dst := some d, op := .build 22 ps, type := ty, pos := pos, after := aft, guard := g } = true := by kernel_rfl
theorem fa22_0 (v : V) : vFieldAddr Try.prog 22 0 v = faddr 0 v := by kernel_rfl
theorem fg22_0 (s : St) (v : V) : vField Try.prog s 22 0 v = fget 0 1 false v := by kernel_rfl
theorem fa22_1 (v : V) : vFieldAddr Try.prog 22 1 v = faddr 1 v := by kernel_rfl
theorem fg22_1 (s : St) (v : V) : vField Try.prog s 22 1 v = fget 1 1 false v := by kernel_rfl
theorem sz23 : szOf Try.prog 23 = 2 := by kernel_rfl
theorem ag23 : isAgg Try.prog 23 = true := by kernel_rfl
theorem ze23 : zero Try.prog 23 = some [V.str ⟨#[]⟩, V.str ⟨#[]⟩] := by kernel_rfl
theorem la23 : layOf Try.prog 23 = some [(9, 0, 1), (9, 1, 1)] := by kernel_rfl
theorem bd23 (H : Hint) (d : Nat) (ty : TypeId) (ps : Array (Nat × Operand)) (s : St) : evV Try.prog H d ty (.build 23 ps) s = aggO (buildL Try.prog [(9, 0, 1), (9, 1, 1)] s [V.str ⟨#[]⟩, V.str ⟨#[]⟩] ps.toList) := build_lay la23 ze23
theorem xb23 (H : Hint) (d : Nat) (ty : TypeId) (ps : Array (Nat × Operand)) (pos : String) (aft : Array Edge) (g : Option (Nat × Bool)) : isX Try.prog H { dst := some d, op := .build 23 ps, type := ty, pos := pos, after := aft, guard := g } = true := by kernel_rfl
theorem fa23_0 (v : V) : vFieldAddr Try.prog 23 0 v = faddr 0 v := by kernel_rfl
theorem fg23_0 (s : St) (v : V) : vField Try.prog s 23 0 v = fget 0 1 false v := by kernel_rfl
theorem fa23_1 (v : V) : vFieldAddr Try.prog 23 1 v = faddr 1 v := by kernel_rfl
theorem fg23_1 (s : St) (v : V) : vField Try.prog s 23 1 v = fget 1 1 false v := by kernel_rfl
theorem ev23 (x0 y0 : ByteArray) (x1 y1 : ByteArray) : eqV Try.prog 23 (.agg [V.str x0, V.str x1]) (.agg [V.str y0, V.str y1]) = some ((x0.toList == y0.toList) && ((x1.toList == y1.toList) && true)) := by kernel_rfl
theorem eg23 : Try.prog.eqGuardType Try.prog.depth 23 = false := by kernel_rfl
theorem u24 : Try.prog.underlying 24 = some (.slice 25) := by kernel_rfl
theorem sz24 : szOf Try.prog 24 = 1 := by kernel_rfl
theorem ag24 : isAgg Try.prog 24 = false := by kernel_rfl
theorem eo24 : elemOf Try.prog 24 = 25 := by kernel_rfl
theorem es24 : elemSz Try.prog 24 = 1 := by kernel_rfl
theorem gr24 : growB Try.prog 24 = true := by kernel_rfl
theorem df24 : dflt Try.prog 24 = V.slc false 1 [] := by kernel_rfl
theorem ze24 : zero Try.prog 24 = some [V.slc true 1 []] := by kernel_rfl
theorem u25 : Try.prog.underlying 25 = some (.slice 3) := by kernel_rfl
theorem sz25 : szOf Try.prog 25 = 1 := by kernel_rfl
theorem ag25 : isAgg Try.prog 25 = false := by kernel_rfl
theorem eo25 : elemOf Try.prog 25 = 3 := by kernel_rfl
theorem es25 : elemSz Try.prog 25 = 1 := by kernel_rfl
theorem gr25 : growB Try.prog 25 = true := by kernel_rfl
theorem df25 : dflt Try.prog 25 = V.int .i64 0 := by kernel_rfl
theorem ze25 : zero Try.prog 25 = some [V.slc true 1 []] := by kernel_rfl
theorem sz26 : szOf Try.prog 26 = 3 := by kernel_rfl
theorem ag26 : isAgg Try.prog 26 = true := by kernel_rfl
theorem ze26 : zero Try.prog 26 = some [V.slc true 1 [], V.slc true 1 [], V.slc true 1 []] := by kernel_rfl
theorem la26 : layOf Try.prog 26 = some [(24, 0, 1), (25, 1, 1), (24, 2, 1)] := by kernel_rfl
theorem bd26 (H : Hint) (d : Nat) (ty : TypeId) (ps : Array (Nat × Operand)) (s : St) : evV Try.prog H d ty (.build 26 ps) s = aggO (buildL Try.prog [(24, 0, 1), (25, 1, 1), (24, 2, 1)] s [V.slc true 1 [], V.slc true 1 [], V.slc true 1 []] ps.toList) := build_lay la26 ze26
theorem xb26 (H : Hint) (d : Nat) (ty : TypeId) (ps : Array (Nat × Operand)) (pos : String) (aft : Array Edge) (g : Option (Nat × Bool)) : isX Try.prog H { dst := some d, op := .build 26 ps, type := ty, pos := pos, after := aft, guard := g } = true := by kernel_rfl
theorem fa26_0 (v : V) : vFieldAddr Try.prog 26 0 v = faddr 0 v := by kernel_rfl
theorem fg26_0 (s : St) (v : V) : vField Try.prog s 26 0 v = fget 0 1 false v := by kernel_rfl
theorem fa26_1 (v : V) : vFieldAddr Try.prog 26 1 v = faddr 1 v := by kernel_rfl
theorem fg26_1 (s : St) (v : V) : vField Try.prog s 26 1 v = fget 1 1 false v := by kernel_rfl
theorem fa26_2 (v : V) : vFieldAddr Try.prog 26 2 v = faddr 2 v := by kernel_rfl
theorem fg26_2 (s : St) (v : V) : vField Try.prog s 26 2 v = fget 2 1 false v := by kernel_rfl
theorem sz27 : szOf Try.prog 27 = 3 := by kernel_rfl
theorem ag27 : isAgg Try.prog 27 = true := by kernel_rfl
theorem ze27 : zero Try.prog 27 = some [V.slc true 1 [], V.slc true 1 [], V.slc true 1 []] := by kernel_rfl
theorem la27 : layOf Try.prog 27 = some [(24, 0, 1), (25, 1, 1), (24, 2, 1)] := by kernel_rfl
theorem bd27 (H : Hint) (d : Nat) (ty : TypeId) (ps : Array (Nat × Operand)) (s : St) : evV Try.prog H d ty (.build 27 ps) s = aggO (buildL Try.prog [(24, 0, 1), (25, 1, 1), (24, 2, 1)] s [V.slc true 1 [], V.slc true 1 [], V.slc true 1 []] ps.toList) := build_lay la27 ze27
theorem xb27 (H : Hint) (d : Nat) (ty : TypeId) (ps : Array (Nat × Operand)) (pos : String) (aft : Array Edge) (g : Option (Nat × Bool)) : isX Try.prog H { dst := some d, op := .build 27 ps, type := ty, pos := pos, after := aft, guard := g } = true := by kernel_rfl
theorem fa27_0 (v : V) : vFieldAddr Try.prog 27 0 v = faddr 0 v := by kernel_rfl
theorem fg27_0 (s : St) (v : V) : vField Try.prog s 27 0 v = fget 0 1 false v := by kernel_rfl
theorem fa27_1 (v : V) : vFieldAddr Try.prog 27 1 v = faddr 1 v := by kernel_rfl
theorem fg27_1 (s : St) (v : V) : vField Try.prog s 27 1 v = fget 1 1 false v := by kernel_rfl
theorem fa27_2 (v : V) : vFieldAddr Try.prog 27 2 v = faddr 2 v := by kernel_rfl
theorem fg27_2 (s : St) (v : V) : vField Try.prog s 27 2 v = fget 2 1 false v := by kernel_rfl
theorem sz28 : szOf Try.prog 28 = 6 := by kernel_rfl
theorem ag28 : isAgg Try.prog 28 = true := by kernel_rfl
theorem ze28 : zero Try.prog 28 = some [V.str ⟨#[]⟩, V.str ⟨#[]⟩, V.slc true 1 [], V.slc true 1 [], V.slc true 1 [], V.slc true 1 []] := by kernel_rfl
theorem la28 : layOf Try.prog 28 = some [(23, 0, 2), (27, 2, 3), (24, 5, 1)] := by kernel_rfl
theorem bd28 (H : Hint) (d : Nat) (ty : TypeId) (ps : Array (Nat × Operand)) (s : St) : evV Try.prog H d ty (.build 28 ps) s = aggO (buildL Try.prog [(23, 0, 2), (27, 2, 3), (24, 5, 1)] s [V.str ⟨#[]⟩, V.str ⟨#[]⟩, V.slc true 1 [], V.slc true 1 [], V.slc true 1 [], V.slc true 1 []] ps.toList) := build_lay la28 ze28
theorem xb28 (H : Hint) (d : Nat) (ty : TypeId) (ps : Array (Nat × Operand)) (pos : String) (aft : Array Edge) (g : Option (Nat × Bool)) : isX Try.prog H { dst := some d, op := .build 28 ps, type := ty, pos := pos, after := aft, guard := g } = true := by kernel_rfl
theorem fa28_0 (v : V) : vFieldAddr Try.prog 28 0 v = faddr 0 v := by kernel_rfl
theorem fg28_0 (s : St) (v : V) : vField Try.prog s 28 0 v = fget 0 2 true v := by kernel_rfl
theorem fa28_1 (v : V) : vFieldAddr Try.prog 28 1 v = faddr 2 v := by kernel_rfl
theorem fg28_1 (s : St) (v : V) : vField Try.prog s 28 1 v = fget 2 3 true v := by kernel_rfl
theorem fa28_2 (v : V) : vFieldAddr Try.prog 28 2 v = faddr 5 v := by kernel_rfl
theorem fg28_2 (s : St) (v : V) : vField Try.prog s 28 2 v = fget 5 1 false v := by kernel_rfl
theorem sz29 : szOf Try.prog 29 = 6 := by kernel_rfl
theorem ag29 : isAgg Try.prog 29 = true := by kernel_rfl
theorem ze29 : zero Try.prog 29 = some [V.str ⟨#[]⟩, V.str ⟨#[]⟩, V.slc true 1 [], V.slc true 1 [], V.slc true 1 [], V.slc true 1 []] := by kernel_rfl
theorem la29 : layOf Try.prog 29 = some [(23, 0, 2), (27, 2, 3), (24, 5, 1)] := by kernel_rfl
theorem bd29 (H : Hint) (d : Nat) (ty : TypeId) (ps : Array (Nat × Operand)) (s : St) : evV Try.prog H d ty (.build 29 ps) s = aggO (buildL Try.prog [(23, 0, 2), (27, 2, 3), (24, 5, 1)] s [V.str ⟨#[]⟩, V.str ⟨#[]⟩, V.slc true 1 [], V.slc true 1 [], V.slc true 1 [], V.slc true 1 []] ps.toList) := build_lay la29 ze29
theorem xb29 (H : Hint) (d : Nat) (ty : TypeId) (ps : Array (Nat × Operand)) (pos : String) (aft : Array Edge) (g : Option (Nat × Bool)) : isX Try.prog H { dst := some d, op := .build 29 ps, type := ty, pos := pos, after := aft, guard := g } = true := by kernel_rfl
theorem fa29_0 (v : V) : vFieldAddr Try.prog 29 0 v = faddr 0 v := by kernel_rfl
theorem fg29_0 (s : St) (v : V) : vField Try.prog s 29 0 v = fget 0 2 true v := by kernel_rfl
theorem fa29_1 (v : V) : vFieldAddr Try.prog 29 1 v = faddr 2 v := by kernel_rfl
theorem fg29_1 (s : St) (v : V) : vField Try.prog s 29 1 v = fget 2 3 true v := by kernel_rfl
theorem fa29_2 (v : V) : vFieldAddr Try.prog 29 2 v = faddr 5 v := by kernel_rfl
theorem fg29_2 (s : St) (v : V) : vField Try.prog s 29 2 v = fget 5 1 false v := by kernel_rfl
theorem u30 : Try.prog.underlying 30 = some (.slice 49) := by kernel_rfl
theorem sz30 : szOf Try.prog 30 = 1 := by kernel_rfl
theorem ag30 : isAgg Try.prog 30 = false := by kernel_rfl
theorem eo30 : elemOf Try.prog 30 = 49 := by kernel_rfl
theorem es30 : elemSz Try.prog 30 = 3 := by kernel_rfl
theorem gr30 : growB Try.prog 30 = true := by kernel_rfl
theorem df30 : dflt Try.prog 30 = V.agg [V.str ⟨#[]⟩, V.str ⟨#[]⟩, V.slc false 1 []] := by kernel_rfl
theorem ze30 : zero Try.prog 30 = some [V.slc true 3 []] := by kernel_rfl
theorem sz31 : szOf Try.prog 31 = 1 := by kernel_rfl
theorem ag31 : isAgg Try.prog 31 = false := by kernel_rfl
theorem ze31 : zero Try.prog 31 = some [V.nilfn] := by kernel_rfl
theorem sz32 : szOf Try.prog 32 = 1 := by kernel_rfl
theorem ag32 : isAgg Try.prog 32 = false := by kernel_rfl
theorem ze32 : zero Try.prog 32 = some [V.nilfn] := by kernel_rfl
theorem sz33 : szOf Try.prog 33 = 1 := by kernel_rfl
theorem ag33 : isAgg Try.prog 33 = false := by kernel_rfl
theorem ze33 : zero Try.prog 33 = some [V.nilfn] := by kernel_rfl
theorem sz34 : szOf Try.prog 34 = 2 := by kernel_rfl
theorem ag34 : isAgg Try.prog 34 = true := by kernel_rfl
theorem ze34 : zero Try.prog 34 = some [V.str ⟨#[]⟩, V.str ⟨#[]⟩] := by kernel_rfl
theorem la34 : layOf Try.prog 34 = some [(9, 0, 1), (9, 1, 1)] := by kernel_rfl
theorem bd34 (H : Hint) (d : Nat) (ty : TypeId) (ps : Array (Nat × Operand)) (s : St) : evV Try.prog H d ty (.build 34 ps) s = aggO (buildL Try.prog [(9, 0, 1), (9, 1, 1)] s [V.str ⟨#[]⟩, V.str ⟨#[]⟩] ps.toList) := build_lay la34 ze34
theorem xb34 (H : Hint) (d : Nat) (ty : TypeId) (ps : Array (Nat × Operand)) (pos : String) (aft : Array Edge) (g : Option (Nat × Bool)) : isX Try.prog H { dst := some d, op := .build 34 ps, type := ty, pos := pos, after := aft, guard := g } = true := by kernel_rfl
theorem fa34_0 (v : V) : vFieldAddr Try.prog 34 0 v = faddr 0 v := by kernel_rfl
theorem fg34_0 (s : St) (v : V) : vField Try.prog s 34 0 v = fget 0 1 false v := by kernel_rfl
theorem fa34_1 (v : V) : vFieldAddr Try.prog 34 1 v = faddr 1 v := by kernel_rfl
theorem fg34_1 (s : St) (v : V) : vField Try.prog s 34 1 v = fget 1 1 false v := by kernel_rfl
theorem ev34 (x0 y0 : ByteArray) (x1 y1 : ByteArray) : eqV Try.prog 34 (.agg [V.str x0, V.str x1]) (.agg [V.str y0, V.str y1]) = some ((x0.toList == y0.toList) && ((x1.toList == y1.toList) && true)) := by kernel_rfl
theorem eg34 : Try.prog.eqGuardType Try.prog.depth 34 = false := by kernel_rfl
theorem sz35 : szOf Try.prog 35 = 3 := by kernel_rfl
theorem ag35 : isAgg Try.prog 35 = true := by kernel_rfl
theorem ze35 : zero Try.prog 35 = some [V.slc true 1 [], V.slc true 1 [], V.slc true 1 []] := by kernel_rfl
theorem la35 : layOf Try.prog 35 = some [(24, 0, 1), (25, 1, 1), (24, 2, 1)] := by kernel_rfl
theorem bd35 (H : Hint) (d : Nat) (ty : TypeId) (ps : Array (Nat × Operand)) (s : St) : evV Try.prog H d ty (.build 35 ps) s = aggO (buildL Try.prog [(24, 0, 1), (25, 1, 1), (24, 2, 1)] s [V.slc true 1 [], V.slc true 1 [], V.slc true 1 []] ps.toList) := build_lay la35 ze35
theorem xb35 (H : Hint) (d : Nat) (ty : TypeId) (ps : Array (Nat × Operand)) (pos : String) (aft : Array Edge) (g : Option (Nat × Bool)) : isX Try.prog H { dst := some d, op := .build 35 ps, type := ty, pos := pos, after := aft, guard := g } = true := by kernel_rfl
theorem fa35_0 (v : V) : vFieldAddr Try.prog 35 0 v = faddr 0 v := by kernel_rfl
theorem fg35_0 (s : St) (v : V) : vField Try.prog s 35 0 v = fget 0 1 false v := by kernel_rfl
theorem fa35_1 (v : V) : vFieldAddr Try.prog 35 1 v = faddr 1 v := by kernel_rfl
theorem fg35_1 (s : St) (v : V) : vField Try.prog s 35 1 v = fget 1 1 false v := by kernel_rfl
theorem fa35_2 (v : V) : vFieldAddr Try.prog 35 2 v = faddr 2 v := by kernel_rfl
theorem fg35_2 (s : St) (v : V) : vField Try.prog s 35 2 v = fget 2 1 false v := by kernel_rfl
theorem sz36 : szOf Try.prog 36 = 6 := by kernel_rfl
theorem ag36 : isAgg Try.prog 36 = true := by kernel_rfl
theorem ze36 : zero Try.prog 36 = some [V.str ⟨#[]⟩, V.str ⟨#[]⟩, V.slc true 1 [], V.slc true 1 [], V.slc true 1 [], V.slc true 1 []] := by kernel_rfl
theorem la36 : layOf Try.prog 36 = some [(34, 0, 2), (35, 2, 3), (24, 5, 1)] := by kernel_rfl
theorem bd36 (H : Hint) (d : Nat) (ty : TypeId) (ps : Array (Nat × Operand)) (s : St) : evV Try.prog H d ty (.build 36 ps) s = aggO (buildL Try.prog [(34, 0, 2), (35, 2, 3), (24, 5, 1)] s [V.str ⟨#[]⟩, V.str ⟨#[]⟩, V.slc true 1 [], V.slc true 1 [], V.slc true 1 [], V.slc true 1 []] ps.toList) := build_lay la36 ze36
theorem xb36 (H : Hint) (d : Nat) (ty : TypeId) (ps : Array (Nat × Operand)) (pos : String) (aft : Array Edge) (g : Option (Nat × Bool)) : isX Try.prog H { dst := some d, op := .build 36 ps, type := ty, pos := pos, after := aft, guard := g } = true := by kernel_rfl
theorem fa36_0 (v : V) : vFieldAddr Try.prog 36 0 v = faddr 0 v := by kernel_rfl
theorem fg36_0 (s : St) (v : V) : vField Try.prog s 36 0 v = fget 0 2 true v := by kernel_rfl
theorem fa36_1 (v : V) : vFieldAddr Try.prog 36 1 v = faddr 2 v := by kernel_rfl
theorem fg36_1 (s : St) (v : V) : vField Try.prog s 36 1 v = fget 2 3 true v := by kernel_rfl
theorem fa36_2 (v : V) : vFieldAddr Try.prog 36 2 v = faddr 5 v := by kernel_rfl
theorem fg36_2 (s : St) (v : V) : vField Try.prog s 36 2 v = fget 5 1 false v := by kernel_rfl
theorem sz37 : szOf Try.prog 37 = 6 := by kernel_rfl
theorem ag37 : isAgg Try.prog 37 = true := by kernel_rfl
theorem ze37 : zero Try.prog 37 = some [V.str ⟨#[]⟩, V.str ⟨#[]⟩, V.slc true 1 [], V.slc true 1 [], V.slc true 1 [], V.slc true 1 []] := by kernel_rfl
theorem la37 : layOf Try.prog 37 = some [(34, 0, 2), (35, 2, 3), (24, 5, 1)] := by kernel_rfl
theorem bd37 (H : Hint) (d : Nat) (ty : TypeId) (ps : Array (Nat × Operand)) (s : St) : evV Try.prog H d ty (.build 37 ps) s = aggO (buildL Try.prog [(34, 0, 2), (35, 2, 3), (24, 5, 1)] s [V.str ⟨#[]⟩, V.str ⟨#[]⟩, V.slc true 1 [], V.slc true 1 [], V.slc true 1 [], V.slc true 1 []] ps.toList) := build_lay la37 ze37
theorem xb37 (H : Hint) (d : Nat) (ty : TypeId) (ps : Array (Nat × Operand)) (pos : String) (aft : Array Edge) (g : Option (Nat × Bool)) : isX Try.prog H { dst := some d, op := .build 37 ps, type := ty, pos := pos, after := aft, guard := g } = true := by kernel_rfl
theorem fa37_0 (v : V) : vFieldAddr Try.prog 37 0 v = faddr 0 v := by kernel_rfl
theorem fg37_0 (s : St) (v : V) : vField Try.prog s 37 0 v = fget 0 2 true v := by kernel_rfl
theorem fa37_1 (v : V) : vFieldAddr Try.prog 37 1 v = faddr 2 v := by kernel_rfl
theorem fg37_1 (s : St) (v : V) : vField Try.prog s 37 1 v = fget 2 3 true v := by kernel_rfl
theorem fa37_2 (v : V) : vFieldAddr Try.prog 37 2 v = faddr 5 v := by kernel_rfl
theorem fg37_2 (s : St) (v : V) : vField Try.prog s 37 2 v = fget 5 1 false v := by kernel_rfl
theorem sz38 : szOf Try.prog 38 = 1 := by kernel_rfl
theorem ag38 : isAgg Try.prog 38 = false := by kernel_rfl
theorem ze38 : zero Try.prog 38 = some [V.nilfn] := by kernel_rfl
theorem u39 : Try.prog.underlying 39 = some (.slice 54) := by kernel_rfl
theorem sz39 : szOf Try.prog 39 = 1 := by kernel_rfl
theorem ag39 : isAgg Try.prog 39 = false := by kernel_rfl
theorem eo39 : elemOf Try.prog 39 = 54 := by kernel_rfl
theorem es39 : elemSz Try.prog 39 = 3 := by kernel_rfl
theorem gr39 : growB Try.prog 39 = true := by kernel_rfl
theorem df39 : dflt Try.prog 39 = V.agg [V.str ⟨#[]⟩, V.str ⟨#[]⟩, V.slc false 1 []] := by kernel_rfl
theorem ze39 : zero Try.prog 39 = some [V.slc true 3 []] := by kernel_rfl
theorem sz40 : szOf Try.prog 40 = 1 := by kernel_rfl
theorem ag40 : isAgg Try.prog 40 = false := by kernel_rfl
theorem ze40 : zero Try.prog 40 = some [V.nilfn] := by kernel_rfl
theorem sz41 : szOf Try.prog 41 = 1 := by kernel_rfl
theorem ag41 : isAgg Try.prog 41 = false := by kernel_rfl
theorem ze41 : zero Try.prog 41 = some [V.nilfn] := by kernel_rfl
theorem sz42 : szOf Try.prog 42 = 1 := by kernel_rfl
theorem ag42 : isAgg Try.prog 42 = false := by kernel_rfl
theorem ze42 : zero Try.prog 42 = some [V.nilfn] := by kernel_rfl
theorem sz43 : szOf Try.prog 43 = 1 := by kernel_rfl
theorem ag43 : isAgg Try.prog 43 = false := by kernel_rfl
theorem ze43 : zero Try.prog 43 = some [V.nilfn] := by kernel_rfl
theorem sz44 : szOf Try.prog 44 = 1 := by kernel_rfl
theorem ag44 : isAgg Try.prog 44 = false := by kernel_rfl
theorem ze44 : zero Try.prog 44 = some [V.nilfn] := by kernel_rfl
theorem sz45 : szOf Try.prog 45 = 1 := by kernel_rfl
theorem ag45 : isAgg Try.prog 45 = false := by kernel_rfl
theorem ze45 : zero Try.prog 45 = some [V.nilfn] := by kernel_rfl
theorem sz46 : szOf Try.prog 46 = 1 := by kernel_rfl
theorem ag46 : isAgg Try.prog 46 = false := by kernel_rfl
theorem ze46 : zero Try.prog 46 = some [V.nilfn] := by kernel_rfl
theorem sz47 : szOf Try.prog 47 = 1 := by kernel_rfl
theorem ag47 : isAgg Try.prog 47 = false := by kernel_rfl
theorem ze47 : zero Try.prog 47 = some [V.nilfn] := by kernel_rfl
theorem sz48 : szOf Try.prog 48 = 3 := by kernel_rfl
theorem ag48 : isAgg Try.prog 48 = true := by kernel_rfl
theorem ze48 : zero Try.prog 48 = some [V.str ⟨#[]⟩, V.str ⟨#[]⟩, V.slc true 1 []] := by kernel_rfl
theorem la48 : layOf Try.prog 48 = some [(9, 0, 1), (9, 1, 1), (25, 2, 1)] := by kernel_rfl
theorem bd48 (H : Hint) (d : Nat) (ty : TypeId) (ps : Array (Nat × Operand)) (s : St) : evV Try.prog H d ty (.build 48 ps) s = aggO (buildL Try.prog [(9, 0, 1), (9, 1, 1), (25, 2, 1)] s [V.str ⟨#[]⟩, V.str ⟨#[]⟩, V.slc true 1 []] ps.toList) := build_lay la48 ze48
theorem xb48 (H : Hint) (d : Nat) (ty : TypeId) (ps : Array (Nat × Operand)) (pos : String) (aft : Array Edge) (g : Option (Nat × Bool)) : isX Try.prog H { dst := some d, op := .build 48 ps, type := ty, pos := pos, after := aft, guard := g } = true := by kernel_rfl
theorem fa48_0 (v : V) : vFieldAddr Try.prog 48 0 v = faddr 0 v := by kernel_rfl
theorem fg48_0 (s : St) (v : V) : vField Try.prog s 48 0 v = fget 0 1 false v := by kernel_rfl
theorem fa48_1 (v : V) : vFieldAddr Try.prog 48 1 v = faddr 1 v := by kernel_rfl
theorem fg48_1 (s : St) (v : V) : vField Try.prog s 48 1 v = fget 1 1 false v := by kernel_rfl
theorem fa48_2 (v : V) : vFieldAddr Try.prog 48 2 v = faddr 2 v := by kernel_rfl
theorem fg48_2 (s : St) (v : V) : vField Try.prog s 48 2 v = fget 2 1 false v := by kernel_rfl
theorem sz49 : szOf Try.prog 49 = 3 := by kernel_rfl
theorem ag49 : isAgg Try.prog 49 = true := by kernel_rfl
theorem ze49 : zero Try.prog 49 = some [V.str ⟨#[]⟩, V.str ⟨#[]⟩, V.slc true 1 []] := by kernel_rfl
theorem la49 : layOf Try.prog 49 = some [(9, 0, 1), (9, 1, 1), (25, 2, 1)] := by kernel_rfl
theorem bd49 (H : Hint) (d : Nat) (ty : TypeId) (ps : Array (Nat × Operand)) (s : St) : evV Try.prog H d ty (.build 49 ps) s = aggO (buildL Try.prog [(9, 0, 1), (9, 1, 1), (25, 2, 1)] s [V.str ⟨#[]⟩, V.str ⟨#[]⟩, V.slc true 1 []] ps.toList) := build_lay la49 ze49
theorem xb49 (H : Hint) (d : Nat) (ty : TypeId) (ps : Array (Nat × Operand)) (pos : String) (aft : Array Edge) (g : Option (Nat × Bool)) : isX Try.prog H { dst := some d, op := .build 49 ps, type := ty, pos := pos, after := aft, guard := g } = true := by kernel_rfl
theorem fa49_0 (v : V) : vFieldAddr Try.prog 49 0 v = faddr 0 v := by kernel_rfl
theorem fg49_0 (s : St) (v : V) : vField Try.prog s 49 0 v = fget 0 1 false v := by kernel_rfl
theorem fa49_1 (v : V) : vFieldAddr Try.prog 49 1 v = faddr 1 v := by kernel_rfl
theorem fg49_1 (s : St) (v : V) : vField Try.prog s 49 1 v = fget 1 1 false v := by kernel_rfl
theorem fa49_2 (v : V) : vFieldAddr Try.prog 49 2 v = faddr 2 v := by kernel_rfl
theorem fg49_2 (s : St) (v : V) : vField Try.prog s 49 2 v = fget 2 1 false v := by kernel_rfl
theorem sz50 : szOf Try.prog 50 = 1 := by kernel_rfl
theorem ag50 : isAgg Try.prog 50 = false := by kernel_rfl
theorem ze50 : zero Try.prog 50 = some [V.nilfn] := by kernel_rfl
theorem sz51 : szOf Try.prog 51 = 1 := by kernel_rfl
theorem ag51 : isAgg Try.prog 51 = false := by kernel_rfl
theorem ze51 : zero Try.prog 51 = some [V.nilfn] := by kernel_rfl
theorem sz52 : szOf Try.prog 52 = 1 := by kernel_rfl
theorem ag52 : isAgg Try.prog 52 = false := by kernel_rfl
theorem ze52 : zero Try.prog 52 = some [V.nilfn] := by kernel_rfl
theorem sz53 : szOf Try.prog 53 = 1 := by kernel_rfl
theorem ag53 : isAgg Try.prog 53 = false := by kernel_rfl
theorem ze53 : zero Try.prog 53 = some [V.nilfn] := by kernel_rfl
theorem sz54 : szOf Try.prog 54 = 3 := by kernel_rfl
theorem ag54 : isAgg Try.prog 54 = true := by kernel_rfl
theorem ze54 : zero Try.prog 54 = some [V.str ⟨#[]⟩, V.str ⟨#[]⟩, V.slc true 1 []] := by kernel_rfl
theorem la54 : layOf Try.prog 54 = some [(9, 0, 1), (9, 1, 1), (25, 2, 1)] := by kernel_rfl
theorem bd54 (H : Hint) (d : Nat) (ty : TypeId) (ps : Array (Nat × Operand)) (s : St) : evV Try.prog H d ty (.build 54 ps) s = aggO (buildL Try.prog [(9, 0, 1), (9, 1, 1), (25, 2, 1)] s [V.str ⟨#[]⟩, V.str ⟨#[]⟩, V.slc true 1 []] ps.toList) := build_lay la54 ze54
theorem xb54 (H : Hint) (d : Nat) (ty : TypeId) (ps : Array (Nat × Operand)) (pos : String) (aft : Array Edge) (g : Option (Nat × Bool)) : isX Try.prog H { dst := some d, op := .build 54 ps, type := ty, pos := pos, after := aft, guard := g } = true := by kernel_rfl
theorem fa54_0 (v : V) : vFieldAddr Try.prog 54 0 v = faddr 0 v := by kernel_rfl
theorem fg54_0 (s : St) (v : V) : vField Try.prog s 54 0 v = fget 0 1 false v := by kernel_rfl
theorem fa54_1 (v : V) : vFieldAddr Try.prog 54 1 v = faddr 1 v := by kernel_rfl
theorem fg54_1 (s : St) (v : V) : vField Try.prog s 54 1 v = fget 1 1 false v := by kernel_rfl
theorem fa54_2 (v : V) : vFieldAddr Try.prog 54 2 v = faddr 2 v := by kernel_rfl
theorem fg54_2 (s : St) (v : V) : vField Try.prog s 54 2 v = fget 2 1 false v := by kernel_rfl
theorem u55 : Try.prog.underlying 55 = some (.slice 60) := by kernel_rfl
theorem sz55 : szOf Try.prog 55 = 1 := by kernel_rfl
theorem ag55 : isAgg Try.prog 55 = false := by kernel_rfl
theorem eo55 : elemOf Try.prog 55 = 60 := by kernel_rfl
theorem es55 : elemSz Try.prog 55 = 5 := by kernel_rfl
theorem gr55 : growB Try.prog 55 = true := by kernel_rfl
theorem df55 : dflt Try.prog 55 = V.agg [V.int .u8 0, V.str ⟨#[]⟩, V.str ⟨#[]⟩, V.str ⟨#[]⟩, V.slc false 1 []] := by kernel_rfl
theorem ze55 : zero Try.prog 55 = some [V.slc true 5 []] := by kernel_rfl
theorem sz56 : szOf Try.prog 56 = 1 := by kernel_rfl
theorem ag56 : isAgg Try.prog 56 = false := by kernel_rfl
theorem ze56 : zero Try.prog 56 = some [V.nilfn] := by kernel_rfl
theorem sz57 : szOf Try.prog 57 = 2 := by kernel_rfl
theorem ag57 : isAgg Try.prog 57 = true := by kernel_rfl
theorem ze57 : zero Try.prog 57 = some [V.int .u8 0, V.str ⟨#[]⟩] := by kernel_rfl
theorem la57 : layOf Try.prog 57 = some [(5, 0, 1), (9, 1, 1)] := by kernel_rfl
theorem bd57 (H : Hint) (d : Nat) (ty : TypeId) (ps : Array (Nat × Operand)) (s : St) : evV Try.prog H d ty (.build 57 ps) s = aggO (buildL Try.prog [(5, 0, 1), (9, 1, 1)] s [V.int .u8 0, V.str ⟨#[]⟩] ps.toList) := build_lay la57 ze57
theorem xb57 (H : Hint) (d : Nat) (ty : TypeId) (ps : Array (Nat × Operand)) (pos : String) (aft : Array Edge) (g : Option (Nat × Bool)) : isX Try.prog H { dst := some d, op := .build 57 ps, type := ty, pos := pos, after := aft, guard := g } = true := by kernel_rfl
theorem fa57_0 (v : V) : vFieldAddr Try.prog 57 0 v = faddr 0 v := by kernel_rfl
theorem fg57_0 (s : St) (v : V) : vField Try.prog s 57 0 v = fget 0 1 false v := by kernel_rfl
theorem fa57_1 (v : V) : vFieldAddr Try.prog 57 1 v = faddr 1 v := by kernel_rfl
theorem fg57_1 (s : St) (v : V) : vField Try.prog s 57 1 v = fget 1 1 false v := by kernel_rfl
theorem sz58 : szOf Try.prog 58 = 2 := by kernel_rfl
theorem ag58 : isAgg Try.prog 58 = true := by kernel_rfl
theorem ze58 : zero Try.prog 58 = some [V.int .u8 0, V.str ⟨#[]⟩] := by kernel_rfl
theorem la58 : layOf Try.prog 58 = some [(5, 0, 1), (9, 1, 1)] := by kernel_rfl
theorem bd58 (H : Hint) (d : Nat) (ty : TypeId) (ps : Array (Nat × Operand)) (s : St) : evV Try.prog H d ty (.build 58 ps) s = aggO (buildL Try.prog [(5, 0, 1), (9, 1, 1)] s [V.int .u8 0, V.str ⟨#[]⟩] ps.toList) := build_lay la58 ze58
theorem xb58 (H : Hint) (d : Nat) (ty : TypeId) (ps : Array (Nat × Operand)) (pos : String) (aft : Array Edge) (g : Option (Nat × Bool)) : isX Try.prog H { dst := some d, op := .build 58 ps, type := ty, pos := pos, after := aft, guard := g } = true := by kernel_rfl
theorem fa58_0 (v : V) : vFieldAddr Try.prog 58 0 v = faddr 0 v := by kernel_rfl
theorem fg58_0 (s : St) (v : V) : vField Try.prog s 58 0 v = fget 0 1 false v := by kernel_rfl
theorem fa58_1 (v : V) : vFieldAddr Try.prog 58 1 v = faddr 1 v := by kernel_rfl
theorem fg58_1 (s : St) (v : V) : vField Try.prog s 58 1 v = fget 1 1 false v := by kernel_rfl
theorem ev58 (x0 y0 : Int) (x1 y1 : ByteArray) : eqV Try.prog 58 (.agg [V.int .u8 x0, V.str x1]) (.agg [V.int .u8 y0, V.str y1]) = some ((x0 == y0) && ((x1.toList == y1.toList) && true)) := by kernel_rfl
theorem eg58 : Try.prog.eqGuardType Try.prog.depth 58 = false := by kernel_rfl
theorem sz59 : szOf Try.prog 59 = 5 := by kernel_rfl
theorem ag59 : isAgg Try.prog 59 = true := by kernel_rfl
theorem ze59 : zero Try.prog 59 = some [V.int .u8 0, V.str ⟨#[]⟩, V.str ⟨#[]⟩, V.str ⟨#[]⟩, V.slc true 1 []] := by kernel_rfl
theorem la59 : layOf Try.prog 59 = some [(58, 0, 2), (54, 2, 3)] := by kernel_rfl
theorem bd59 (H : Hint) (d : Nat) (ty : TypeId) (ps : Array (Nat × Operand)) (s : St) : evV Try.prog H d ty (.build 59 ps) s = aggO (buildL Try.prog [(58, 0, 2), (54, 2, 3)] s [V.int .u8 0, V.str ⟨#[]⟩, V.str ⟨#[]⟩, V.str ⟨#[]⟩, V.slc true 1 []] ps.toList) := build_lay la59 ze59
theorem xb59 (H : Hint) (d : Nat) (ty : TypeId) (ps : Array (Nat × Operand)) (pos : String) (aft : Array Edge) (g : Option (Nat × Bool)) : isX Try.prog H { dst := some d, op := .build 59 ps, type := ty, pos := pos, after := aft, guard := g } = true := by kernel_rfl
theorem fa59_0 (v : V) : vFieldAddr Try.prog 59 0 v = faddr 0 v := by kernel_rfl
theorem fg59_0 (s : St) (v : V) : vField Try.prog s 59 0 v = fget 0 2 true v := by kernel_rfl
theorem fa59_1 (v : V) : vFieldAddr Try.prog 59 1 v = faddr 2 v := by kernel_rfl
theorem fg59_1 (s : St) (v : V) : vField Try.prog s 59 1 v = fget 2 3 true v := by kernel_rfl
theorem sz60 : szOf Try.prog 60 = 5 := by kernel_rfl
theorem ag60 : isAgg Try.prog 60 = true := by kernel_rfl
theorem ze60 : zero Try.prog 60 = some [V.int .u8 0, V.str ⟨#[]⟩, V.str ⟨#[]⟩, V.str ⟨#[]⟩, V.slc true 1 []] := by kernel_rfl
theorem la60 : layOf Try.prog 60 = some [(58, 0, 2), (54, 2, 3)] := by kernel_rfl
theorem bd60 (H : Hint) (d : Nat) (ty : TypeId) (ps : Array (Nat × Operand)) (s : St) : evV Try.prog H d ty (.build 60 ps) s = aggO (buildL Try.prog [(58, 0, 2), (54, 2, 3)] s [V.int .u8 0, V.str ⟨#[]⟩, V.str ⟨#[]⟩, V.str ⟨#[]⟩, V.slc true 1 []] ps.toList) := build_lay la60 ze60
theorem xb60 (H : Hint) (d : Nat) (ty : TypeId) (ps : Array (Nat × Operand)) (pos : String) (aft : Array Edge) (g : Option (Nat × Bool)) : isX Try.prog H { dst := some d, op := .build 60 ps, type := ty, pos := pos, after := aft, guard := g } = true := by kernel_rfl
theorem fa60_0 (v : V) : vFieldAddr Try.prog 60 0 v = faddr 0 v := by kernel_rfl
theorem fg60_0 (s : St) (v : V) : vField Try.prog s 60 0 v = fget 0 2 true v := by kernel_rfl
theorem fa60_1 (v : V) : vFieldAddr Try.prog 60 1 v = faddr 2 v := by kernel_rfl
theorem fg60_1 (s : St) (v : V) : vField Try.prog s 60 1 v = fget 2 3 true v := by kernel_rfl
theorem sz61 : szOf Try.prog 61 = 1 := by kernel_rfl
theorem ag61 : isAgg Try.prog 61 = false := by kernel_rfl
theorem ze61 : zero Try.prog 61 = some [V.nilfn] := by kernel_rfl
theorem sz62 : szOf Try.prog 62 = 1 := by kernel_rfl
theorem ag62 : isAgg Try.prog 62 = false := by kernel_rfl
theorem ze62 : zero Try.prog 62 = some [V.nilfn] := by kernel_rfl
theorem sz63 : szOf Try.prog 63 = 1 := by kernel_rfl
theorem ag63 : isAgg Try.prog 63 = false := by kernel_rfl
theorem ze63 : zero Try.prog 63 = some [V.nilfn] := by kernel_rfl
theorem sz64 : szOf Try.prog 64 = 1 := by kernel_rfl
theorem ag64 : isAgg Try.prog 64 = false := by kernel_rfl
theorem ze64 : zero Try.prog 64 = some [V.nilfn] := by kernel_rfl
theorem sz65 : szOf Try.prog 65 = 1 := by kernel_rfl
theorem ag65 : isAgg Try.prog 65 = false := by kernel_rfl
theorem ze65 : zero Try.prog 65 = some [V.nilfn] := by kernel_rfl
theorem sz66 : szOf Try.prog 66 = 1 := by kernel_rfl
theorem ag66 : isAgg Try.prog 66 = false := by kernel_rfl
theorem ze66 : zero Try.prog 66 = some [V.nilfn] := by kernel_rfl
theorem sz67 : szOf Try.prog 67 = 1 := by kernel_rfl
theorem ag67 : isAgg Try.prog 67 = false := by kernel_rfl
theorem ze67 : zero Try.prog 67 = some [V.nilfn] := by kernel_rfl
theorem sz68 : szOf Try.prog 68 = 1 := by kernel_rfl
theorem ag68 : isAgg Try.prog 68 = false := by kernel_rfl
theorem ze68 : zero Try.prog 68 = some [V.nilfn] := by kernel_rfl
theorem sz69 : szOf Try.prog 69 = 1 := by kernel_rfl
theorem ag69 : isAgg Try.prog 69 = false := by kernel_rfl
theorem ze69 : zero Try.prog 69 = some [V.nilfn] := by kernel_rfl
theorem sz70 : szOf Try.prog 70 = 1 := by kernel_rfl
theorem ag70 : isAgg Try.prog 70 = false := by kernel_rfl
theorem ze70 : zero Try.prog 70 = some [V.nilfn] := by kernel_rfl
theorem sz71 : szOf Try.prog 71 = 1 := by kernel_rfl
theorem ag71 : isAgg Try.prog 71 = false := by kernel_rfl
theorem ze71 : zero Try.prog 71 = some [V.nilfn] := by kernel_rfl
theorem sz72 : szOf Try.prog 72 = 1 := by kernel_rfl
theorem ag72 : isAgg Try.prog 72 = false := by kernel_rfl
theorem ze72 : zero Try.prog 72 = some [V.nilfn] := by kernel_rfl
theorem sz73 : szOf Try.prog 73 = 1 := by kernel_rfl
theorem ag73 : isAgg Try.prog 73 = false := by kernel_rfl
theorem ze73 : zero Try.prog 73 = some [V.nilfn] := by kernel_rfl
theorem sz74 : szOf Try.prog 74 = 1 := by kernel_rfl
theorem ag74 : isAgg Try.prog 74 = false := by kernel_rfl
theorem ze74 : zero Try.prog 74 = some [V.nilfn] := by kernel_rfl
theorem u75 : Try.prog.underlying 75 = some (.slice 58) := by kernel_rfl
theorem sz75 : szOf Try.prog 75 = 1 := by kernel_rfl
theorem ag75 : isAgg Try.prog 75 = false := by kernel_rfl
theorem eo75 : elemOf Try.prog 75 = 58 := by kernel_rfl
theorem es75 : elemSz Try.prog 75 = 2 := by kernel_rfl
theorem gr75 : growB Try.prog 75 = true := by kernel_rfl
theorem df75 : dflt Try.prog 75 = V.agg [V.int .u8 0, V.str ⟨#[]⟩] := by kernel_rfl
theorem ze75 : zero Try.prog 75 = some [V.slc true 2 []] := by kernel_rfl
theorem sz76 : szOf Try.prog 76 = 1 := by kernel_rfl
theorem ag76 : isAgg Try.prog 76 = false := by kernel_rfl
theorem ze76 : zero Try.prog 76 = some [V.nilfn] := by kernel_rfl
theorem sz77 : szOf Try.prog 77 = 1 := by kernel_rfl
theorem ag77 : isAgg Try.prog 77 = false := by kernel_rfl
theorem ze77 : zero Try.prog 77 = some [V.nilfn] := by kernel_rfl
theorem sz78 : szOf Try.prog 78 = 1 := by kernel_rfl
theorem ag78 : isAgg Try.prog 78 = false := by kernel_rfl
theorem ze78 : zero Try.prog 78 = some [V.nilfn] := by kernel_rfl
theorem sz79 : szOf Try.prog 79 = 1 := by kernel_rfl
theorem ag79 : isAgg Try.prog 79 = false := by kernel_rfl
theorem ze79 : zero Try.prog 79 = some [V.nilfn] := by kernel_rfl
theorem sz80 : szOf Try.prog 80 = 1 := by kernel_rfl
theorem ag80 : isAgg Try.prog 80 = false := by kernel_rfl
theorem ze80 : zero Try.prog 80 = some [V.nilfn] := by kernel_rfl
theorem sz81 : szOf Try.prog 81 = 1 := by kernel_rfl
theorem ag81 : isAgg Try.prog 81 = false := by kernel_rfl
theorem ze81 : zero Try.prog 81 = some [V.nilfn] := by kernel_rfl
theorem sz82 : szOf Try.prog 82 = 1 := by kernel_rfl
theorem ag82 : isAgg Try.prog 82 = false := by kernel_rfl
theorem ze82 : zero Try.prog 82 = some [V.nilfn] := by kernel_rfl
theorem sz83 : szOf Try.prog 83 = 1 := by kernel_rfl
theorem ag83 : isAgg Try.prog 83 = false := by kernel_rfl
theorem ze83 : zero Try.prog 83 = some [V.nilfn] := by kernel_rfl
theorem sz84 : szOf Try.prog 84 = 1 := by kernel_rfl
theorem ag84 : isAgg Try.prog 84 = false := by kernel_rfl
theorem ze84 : zero Try.prog 84 = some [V.nilfn] := by kernel_rfl
theorem sz85 : szOf Try.prog 85 = 1 := by kernel_rfl
theorem ag85 : isAgg Try.prog 85 = false := by kernel_rfl
theorem ze85 : zero Try.prog 85 = some [V.nilfn] := by kernel_rfl
theorem sz86 : szOf Try.prog 86 = 1 := by kernel_rfl
theorem ag86 : isAgg Try.prog 86 = false := by kernel_rfl
theorem ze86 : zero Try.prog 86 = some [V.nilfn] := by kernel_rfl
theorem sz87 : szOf Try.prog 87 = 1 := by kernel_rfl
theorem ag87 : isAgg Try.prog 87 = false := by kernel_rfl
theorem ze87 : zero Try.prog 87 = some [V.nilfn] := by kernel_rfl
theorem sz88 : szOf Try.prog 88 = 1 := by kernel_rfl
theorem ag88 : isAgg Try.prog 88 = false := by kernel_rfl
theorem ze88 : zero Try.prog 88 = some [V.nilfn] := by kernel_rfl
theorem sz89 : szOf Try.prog 89 = 1 := by kernel_rfl
theorem ag89 : isAgg Try.prog 89 = false := by kernel_rfl
theorem ze89 : zero Try.prog 89 = some [V.nilfn] := by kernel_rfl
theorem sz90 : szOf Try.prog 90 = 1 := by kernel_rfl
theorem ag90 : isAgg Try.prog 90 = false := by kernel_rfl
theorem ze90 : zero Try.prog 90 = some [V.nilfn] := by kernel_rfl
theorem sz91 : szOf Try.prog 91 = 1 := by kernel_rfl
theorem ag91 : isAgg Try.prog 91 = false := by kernel_rfl
theorem ze91 : zero Try.prog 91 = some [V.nilfn] := by kernel_rfl
theorem sz92 : szOf Try.prog 92 = 1 := by kernel_rfl
theorem ag92 : isAgg Try.prog 92 = false := by kernel_rfl
theorem ze92 : zero Try.prog 92 = some [V.nilfn] := by kernel_rfl
theorem sz93 : szOf Try.prog 93 = 1 := by kernel_rfl
theorem ag93 : isAgg Try.prog 93 = false := by kernel_rfl
theorem ze93 : zero Try.prog 93 = some [V.nilfn] := by kernel_rfl
theorem sz94 : szOf Try.prog 94 = 1 := by kernel_rfl
theorem ag94 : isAgg Try.prog 94 = false := by kernel_rfl
theorem ze94 : zero Try.prog 94 = some [V.nilfn] := by kernel_rfl
theorem sz95 : szOf Try.prog 95 = 1 := by kernel_rfl
theorem ag95 : isAgg Try.prog 95 = false := by kernel_rfl
theorem ze95 : zero Try.prog 95 = some [V.nilfn] := by kernel_rfl
theorem sz96 : szOf Try.prog 96 = 1 := by kernel_rfl
theorem ag96 : isAgg Try.prog 96 = false := by kernel_rfl
theorem ze96 : zero Try.prog 96 = some [V.nilfn] := by kernel_rfl
theorem sz97 : szOf Try.prog 97 = 1 := by kernel_rfl
theorem ag97 : isAgg Try.prog 97 = false := by kernel_rfl
theorem ze97 : zero Try.prog 97 = some [V.nilfn] := by kernel_rfl
theorem sz98 : szOf Try.prog 98 = 1 := by kernel_rfl
theorem ag98 : isAgg Try.prog 98 = false := by kernel_rfl
theorem ze98 : zero Try.prog 98 = some [V.nilfn] := by kernel_rfl
theorem u99 : Try.prog.underlying 99 = some (.array 2 5) := by kernel_rfl
theorem sz99 : szOf Try.prog 99 = 2 := by kernel_rfl
theorem ag99 : isAgg Try.prog 99 = true := by kernel_rfl
theorem eo99 : elemOf Try.prog 99 = 5 := by kernel_rfl
theorem es99 : elemSz Try.prog 99 = 1 := by kernel_rfl
theorem ze99 : zero Try.prog 99 = some [V.int .u8 0, V.int .u8 0] := by kernel_rfl
theorem u100 : Try.prog.underlying 100 = some (.slice 99) := by kernel_rfl
theorem sz100 : szOf Try.prog 100 = 1 := by kernel_rfl
theorem ag100 : isAgg Try.prog 100 = false := by kernel_rfl
theorem eo100 : elemOf Try.prog 100 = 99 := by kernel_rfl
theorem es100 : elemSz Try.prog 100 = 2 := by kernel_rfl
theorem gr100 : growB Try.prog 100 = true := by kernel_rfl
theorem df100 : dflt Try.prog 100 = V.agg [V.int .u8 0, V.int .u8 0] := by kernel_rfl
theorem ze100 : zero Try.prog 100 = some [V.slc true 2 []] := by kernel_rfl
theorem u101 : Try.prog.underlying 101 = some (.slice 5) := by kernel_rfl
theorem sz101 : szOf Try.prog 101 = 1 := by kernel_rfl
theorem ag101 : isAgg Try.prog 101 = false := by kernel_rfl
theorem eo101 : elemOf Try.prog 101 = 5 := by kernel_rfl
theorem es101 : elemSz Try.prog 101 = 1 := by kernel_rfl
theorem gr101 : growB Try.prog 101 = true := by kernel_rfl
theorem df101 : dflt Try.prog 101 = V.int .u8 0 := by kernel_rfl
theorem ze101 : zero Try.prog 101 = some [V.slc true 1 []] := by kernel_rfl
theorem sz102 : szOf Try.prog 102 = 1 := by kernel_rfl
theorem ag102 : isAgg Try.prog 102 = false := by kernel_rfl
theorem ze102 : zero Try.prog 102 = some [V.nilfn] := by kernel_rfl
theorem sz103 : szOf Try.prog 103 = 1 := by kernel_rfl
theorem ag103 : isAgg Try.prog 103 = false := by kernel_rfl
theorem ze103 : zero Try.prog 103 = some [V.nilfn] := by kernel_rfl
theorem sz104 : szOf Try.prog 104 = 1 := by kernel_rfl
theorem ag104 : isAgg Try.prog 104 = false := by kernel_rfl
theorem ze104 : zero Try.prog 104 = some [V.nilfn] := by kernel_rfl
theorem sz106 : szOf Try.prog 106 = 1 := by kernel_rfl
theorem ag106 : isAgg Try.prog 106 = false := by kernel_rfl
theorem ze106 : zero Try.prog 106 = some [V.nilfn] := by kernel_rfl
theorem sz107 : szOf Try.prog 107 = 4 := by kernel_rfl
theorem ag107 : isAgg Try.prog 107 = true := by kernel_rfl
theorem ze107 : zero Try.prog 107 = some [V.nilp, V.nilp, V.nilp, V.str ⟨#[]⟩] := by kernel_rfl
theorem la107 : layOf Try.prog 107 = some [(17, 0, 1), (17, 1, 1), (17, 2, 1), (9, 3, 1)] := by kernel_rfl
theorem bd107 (H : Hint) (d : Nat) (ty : TypeId) (ps : Array (Nat × Operand)) (s : St) : evV Try.prog H d ty (.build 107 ps) s = aggO (buildL Try.prog [(17, 0, 1), (17, 1, 1), (17, 2, 1), (9, 3, 1)] s [V.nilp, V.nilp, V.nilp, V.str ⟨#[]⟩] ps.toList) := build_lay la107 ze107
theorem xb107 (H : Hint) (d : Nat) (ty : TypeId) (ps : Array (Nat × Operand)) (pos : String) (aft : Array Edge) (g : Option (Nat × Bool)) : isX Try.prog H { dst := some d, op := .build 107 ps, type := ty, pos := pos, after := aft, guard := g } = true := by kernel_rfl
theorem fa107_0 (v : V) : vFieldAddr Try.prog 107 0 v = faddr 0 v := by kernel_rfl
theorem fg107_0 (s : St) (v : V) : vField Try.prog s 107 0 v = fget 0 1 false v := by kernel_rfl
theorem fa107_1 (v : V) : vFieldAddr Try.prog 107 1 v = faddr 1 v := by kernel_rfl
theorem fg107_1 (s : St) (v : V) : vField Try.prog s 107 1 v = fget 1 1 false v := by kernel_rfl
theorem fa107_2 (v : V) : vFieldAddr Try.prog 107 2 v = faddr 2 v := by kernel_rfl
theorem fg107_2 (s : St) (v : V) : vField Try.prog s 107 2 v = fget 2 1 false v := by kernel_rfl
theorem fa107_3 (v : V) : vFieldAddr Try.prog 107 3 v = faddr 3 v := by kernel_rfl
theorem fg107_3 (s : St) (v : V) : vField Try.prog s 107 3 v = fget 3 1 false v := by kernel_rfl
theorem sz108 : szOf Try.prog 108 = 4 := by kernel_rfl
theorem ag108 : isAgg Try.prog 108 = true := by kernel_rfl
theorem ze108 : zero Try.prog 108 = some [V.nilp, V.nilp, V.nilp, V.str ⟨#[]⟩] := by kernel_rfl
theorem la108 : layOf Try.prog 108 = some [(17, 0, 1), (17, 1, 1), (17, 2, 1), (9, 3, 1)] := by kernel_rfl
theorem bd108 (H : Hint) (d : Nat) (ty : TypeId) (ps : Array (Nat × Operand)) (s : St) : evV Try.prog H d ty (.build 108 ps) s = aggO (buildL Try.prog [(17, 0, 1), (17, 1, 1), (17, 2, 1), (9, 3, 1)] s [V.nilp, V.nilp, V.nilp, V.str ⟨#[]⟩] ps.toList) := build_lay la108 ze108
theorem xb108 (H : Hint) (d : Nat) (ty : TypeId) (ps : Array (Nat × Operand)) (pos : String) (aft : Array Edge) (g : Option (Nat × Bool)) : isX Try.prog H { dst := some d, op := .build 108 ps, type := ty, pos := pos, after := aft, guard := g } = true := by kernel_rfl
theorem fa108_0 (v : V) : vFieldAddr Try.prog 108 0 v = faddr 0 v := by kernel_rfl
theorem fg108_0 (s : St) (v : V) : vField Try.prog s 108 0 v = fget 0 1 false v := by kernel_rfl
theorem fa108_1 (v : V) : vFieldAddr Try.prog 108 1 v = faddr 1 v := by kernel_rfl
theorem fg108_1 (s : St) (v : V) : vField Try.prog s 108 1 v = fget 1 1 false v := by kernel_rfl
theorem fa108_2 (v : V) : vFieldAddr Try.prog 108 2 v = faddr 2 v := by kernel_rfl
theorem fg108_2 (s : St) (v : V) : vField Try.prog s 108 2 v = fget 2 1 false v := by kernel_rfl
theorem fa108_3 (v : V) : vFieldAddr Try.prog 108 3 v = faddr 3 v := by kernel_rfl
theorem fg108_3 (s : St) (v : V) : vField Try.prog s 108 3 v = fget 3 1 false v := by kernel_rfl
theorem u109 : Try.prog.underlying 109 = some (.array 0 16) := by kernel_rfl
theorem sz109 : szOf Try.prog 109 = 0 := by kernel_rfl
theorem ag109 : isAgg Try.prog 109 = true := by kernel_rfl
theorem eo109 : elemOf Try.prog 109 = 16 := by kernel_rfl
theorem es109 : elemSz Try.prog 109 = 1 := by kernel_rfl
theorem ze109 : zero Try.prog 109 = some [] := by kernel_rfl
theorem sz110 : szOf Try.prog 110 = 0 := by kernel_rfl
theorem ag110 : isAgg Try.prog 110 = true := by kernel_rfl
theorem ze110 : zero Try.prog 110 = some [] := by kernel_rfl
theorem sz111 : szOf Try.prog 111 = 0 := by kernel_rfl
theorem ag111 : isAgg Try.prog 111 = true := by kernel_rfl
theorem ze111 : zero Try.prog 111 = some [] := by kernel_rfl
theorem sz112 : szOf Try.prog 112 = 1 := by kernel_rfl
theorem ag112 : isAgg Try.prog 112 = false := by kernel_rfl
theorem ze112 : zero Try.prog 112 = some [V.nilfn] := by kernel_rfl
theorem u113 : Try.prog.underlying 113 = some (.int .u32) := by kernel_rfl
theorem sz113 : szOf Try.prog 113 = 1 := by kernel_rfl
theorem ag113 : isAgg Try.prog 113 = false := by kernel_rfl
theorem ze113 : zero Try.prog 113 = some [V.int .u32 0] := by kernel_rfl
theorem u114 : Try.prog.underlying 114 = some (.int .u8) := by kernel_rfl
theorem sz114 : szOf Try.prog 114 = 1 := by kernel_rfl
theorem ag114 : isAgg Try.prog 114 = false := by kernel_rfl
theorem ze114 : zero Try.prog 114 = some [V.int .u8 0] := by kernel_rfl
theorem u115 : Try.prog.underlying 115 = some (.int .u8) := by kernel_rfl
theorem sz115 : szOf Try.prog 115 = 1 := by kernel_rfl
theorem ag115 : isAgg Try.prog 115 = false := by kernel_rfl
theorem ze115 : zero Try.prog 115 = some [V.int .u8 0] := by kernel_rfl
theorem sz116 : szOf Try.prog 116 = 1 := by kernel_rfl
theorem ag116 : isAgg Try.prog 116 = false := by kernel_rfl
theorem ze116 : zero Try.prog 116 = some [V.nilfn] := by kernel_rfl
theorem u117 : Try.prog.underlying 117 = some (.pointer 5) := by kernel_rfl
theorem sz117 : szOf Try.prog 117 = 1 := by kernel_rfl
theorem ag117 : isAgg Try.prog 117 = false := by kernel_rfl
theorem ze117 : zero Try.prog 117 = some [V.nilp] := by kernel_rfl
theorem u118 : Try.prog.underlying 118 = some (.int .i32) := by kernel_rfl
theorem sz118 : szOf Try.prog 118 = 1 := by kernel_rfl
theorem ag118 : isAgg Try.prog 118 = false := by kernel_rfl
theorem ze118 : zero Try.prog 118 = some [V.int .i32 0] := by kernel_rfl
theorem u119 : Try.prog.underlying 119 = some (.int .i32) := by kernel_rfl
theorem sz119 : szOf Try.prog 119 = 1 := by kernel_rfl
theorem ag119 : isAgg Try.prog 119 = false := by kernel_rfl
theorem ze119 : zero Try.prog 119 = some [V.int .i32 0] := by kernel_rfl
theorem sz120 : szOf Try.prog 120 = 11 := by kernel_rfl
theorem ag120 : isAgg Try.prog 120 = true := by kernel_rfl
theorem ze120 : zero Try.prog 120 = some [V.int .u64 0, V.int .u64 0, V.int .u32 0, V.int .u8 0, V.int .u8 0, V.int .u8 0, V.int .u8 0, V.nilfn, V.nilp, V.int .i32 0, V.int .i32 0] := by kernel_rfl
theorem la120 : layOf Try.prog 120 = some [(12, 0, 1), (12, 1, 1), (113, 2, 1), (114, 3, 1), (5, 4, 1), (5, 5, 1), (115, 6, 1), (116, 7, 1), (117, 8, 1), (118, 9, 1), (119, 10, 1)] := by kernel_rfl
theorem bd120 (H : Hint) (d : Nat) (ty : TypeId) (ps : Array (Nat × Operand)) (s : St) : evV Try.prog H d ty (.build 120 ps) s = aggO (buildL Try.prog [(12, 0, 1), (12, 1, 1), (113, 2, 1), (114, 3, 1), (5, 4, 1), (5, 5, 1), (115, 6, 1), (116, 7, 1), (117, 8, 1), (118, 9, 1), (119, 10, 1)] s [V.int .u64 0, V.int .u64 0, V.int .u32 0, V.int .u8 0, V.int .u8 0, V.int .u8 0, V.int .u8 0, V.nilfn, V.nilp, V.int .i32 0, V.int .i32 0] ps.toList) := build_lay la120 ze120
theorem xb120 (H : Hint) (d : Nat) (ty : TypeId) (ps : Array (Nat × Operand)) (pos : String) (aft : Array Edge) (g : Option (Nat × Bool)) : isX Try.prog H { dst := some d, op := .build 120 ps, type := ty, pos := pos, after := aft, guard := g } = true := by kernel_rfl
theorem fa120_0 (v : V) : vFieldAddr Try.prog 120 0 v = faddr 0 v := by kernel_rfl
theorem fg120_0 (s : St) (v : V) : vField Try.prog s 120 0 v = fget 0 1 false v := by kernel_rfl
theorem fa120_1 (v : V) : vFieldAddr Try.prog 120 1 v = faddr 1 v := by kernel_rfl
theorem fg120_1 (s : St) (v : V) : vField Try.prog s 120 1 v = fget 1 1 false v := by kernel_rfl
theorem fa120_2 (v : V) : vFieldAddr Try.prog 120 2 v = faddr 2 v := by kernel_rfl
theorem fg120_2 (s : St) (v : V) : vField Try.prog s 120 2 v = fget 2 1 false v := by kernel_rfl
theorem fa120_3 (v : V) : vFieldAddr Try.prog 120 3 v = faddr 3 v := by kernel_rfl
theorem fg120_3 (s : St) (v : V) : vField Try.prog s 120 3 v = fget 3 1 false v := by kernel_rfl
theorem fa120_4 (v : V) : vFieldAddr Try.prog 120 4 v = faddr 4 v := by kernel_rfl
theorem fg120_4 (s : St) (v : V) : vField Try.prog s 120 4 v = fget 4 1 false v := by kernel_rfl
theorem fa120_5 (v : V) : vFieldAddr Try.prog 120 5 v = faddr 5 v := by kernel_rfl
theorem fg120_5 (s : St) (v : V) : vField Try.prog s 120 5 v = fget 5 1 false v := by kernel_rfl
theorem fa120_6 (v : V) : vFieldAddr Try.prog 120 6 v = faddr 6 v := by kernel_rfl
theorem fg120_6 (s : St) (v : V) : vField Try.prog s 120 6 v = fget 6 1 false v := by kernel_rfl
theorem fa120_7 (v : V) : vFieldAddr Try.prog 120 7 v = faddr 7 v := by kernel_rfl
theorem fg120_7 (s : St) (v : V) : vField Try.prog s 120 7 v = fget 7 1 false v := by kernel_rfl
theorem fa120_8 (v : V) : vFieldAddr Try.prog 120 8 v = faddr 8 v := by kernel_rfl
theorem fg120_8 (s : St) (v : V) : vField Try.prog s 120 8 v = fget 8 1 false v := by kernel_rfl
theorem fa120_9 (v : V) : vFieldAddr Try.prog 120 9 v = faddr 9 v := by kernel_rfl
theorem fg120_9 (s : St) (v : V) : vField Try.prog s 120 9 v = fget 9 1 false v := by kernel_rfl
theorem fa120_10 (v : V) : vFieldAddr Try.prog 120 10 v = faddr 10 v := by kernel_rfl
theorem fg120_10 (s : St) (v : V) : vField Try.prog s 120 10 v = fget 10 1 false v := by kernel_rfl
theorem sz121 : szOf Try.prog 121 = 11 := by kernel_rfl
theorem ag121 : isAgg Try.prog 121 = true := by kernel_rfl
theorem ze121 : zero Try.prog 121 = some [V.int .u64 0, V.int .u64 0, V.int .u32 0, V.int .u8 0, V.int .u8 0, V.int .u8 0, V.int .u8 0, V.nilfn, V.nilp, V.int .i32 0, V.int .i32 0] := by kernel_rfl
theorem la121 : layOf Try.prog 121 = some [(12, 0, 1), (12, 1, 1), (113, 2, 1), (114, 3, 1), (5, 4, 1), (5, 5, 1), (115, 6, 1), (116, 7, 1), (117, 8, 1), (118, 9, 1), (119, 10, 1)] := by kernel_rfl
theorem bd121 (H : Hint) (d : Nat) (ty : TypeId) (ps : Array (Nat × Operand)) (s : St) : evV Try.prog H d ty (.build 121 ps) s = aggO (buildL Try.prog [(12, 0, 1), (12, 1, 1), (113, 2, 1), (114, 3, 1), (5, 4, 1), (5, 5, 1), (115, 6, 1), (116, 7, 1), (117, 8, 1), (118, 9, 1), (119, 10, 1)] s [V.int .u64 0, V.int .u64 0, V.int .u32 0, V.int .u8 0, V.int .u8 0, V.int .u8 0, V.int .u8 0, V.nilfn, V.nilp, V.int .i32 0, V.int .i32 0] ps.toList) := build_lay la121 ze121
theorem xb121 (H : Hint) (d : Nat) (ty : TypeId) (ps : Array (Nat × Operand)) (pos : String) (aft : Array Edge) (g : Option (Nat × Bool)) : isX Try.prog H { dst := some d, op := .build 121 ps, type := ty, pos := pos, after := aft, guard := g } = true := by kernel_rfl
theorem fa121_0 (v : V) : vFieldAddr Try.prog 121 0 v = faddr 0 v := by kernel_rfl
theorem fg121_0 (s : St) (v : V) : vField Try.prog s 121 0 v = fget 0 1 false v := by kernel_rfl
theorem fa121_1 (v : V) : vFieldAddr Try.prog 121 1 v = faddr 1 v := by kernel_rfl
theorem fg121_1 (s : St) (v : V) : vField Try.prog s 121 1 v = fget 1 1 false v := by kernel_rfl
theorem fa121_2 (v : V) : vFieldAddr Try.prog 121 2 v = faddr 2 v := by kernel_rfl
theorem fg121_2 (s : St) (v : V) : vField Try.prog s 121 2 v = fget 2 1 false v := by kernel_rfl
theorem fa121_3 (v : V) : vFieldAddr Try.prog 121 3 v = faddr 3 v := by kernel_rfl
theorem fg121_3 (s : St) (v : V) : vField Try.prog s 121 3 v = fget 3 1 false v := by kernel_rfl
theorem fa121_4 (v : V) : vFieldAddr Try.prog 121 4 v = faddr 4 v := by kernel_rfl
theorem fg121_4 (s : St) (v : V) : vField Try.prog s 121 4 v = fget 4 1 false v := by kernel_rfl
theorem fa121_5 (v : V) : vFieldAddr Try.prog 121 5 v = faddr 5 v := by kernel_rfl
theorem fg121_5 (s : St) (v : V) : vField Try.prog s 121 5 v = fget 5 1 false v := by kernel_rfl
theorem fa121_6 (v : V) : vFieldAddr Try.prog 121 6 v = faddr 6 v := by kernel_rfl
theorem fg121_6 (s : St) (v : V) : vField Try.prog s 121 6 v = fget 6 1 false v := by kernel_rfl
theorem fa121_7 (v : V) : vFieldAddr Try.prog 121 7 v = faddr 7 v := by kernel_rfl
theorem fg121_7 (s : St) (v : V) : vField Try.prog s 121 7 v = fget 7 1 false v := by kernel_rfl
theorem fa121_8 (v : V) : vFieldAddr Try.prog 121 8 v = faddr 8 v := by kernel_rfl
theorem fg121_8 (s : St) (v : V) : vField Try.prog s 121 8 v = fget 8 1 false v := by kernel_rfl
theorem fa121_9 (v : V) : vFieldAddr Try.prog 121 9 v = faddr 9 v := by kernel_rfl
theorem fg121_9 (s : St) (v : V) : vField Try.prog s 121 9 v = fget 9 1 false v := by kernel_rfl
theorem fa121_10 (v : V) : vFieldAddr Try.prog 121 10 v = faddr 10 v := by kernel_rfl
theorem fg121_10 (s : St) (v : V) : vField Try.prog s 121 10 v = fget 10 1 false v := by kernel_rfl
theorem by3 : (Try.prog.bytesOf 3) = 8 := by kernel_rfl
theorem by5 : (Try.prog.bytesOf 5) = 1 := by kernel_rfl
theorem by25 : (Try.prog.bytesOf 25) = 24 := by kernel_rfl
theorem by49 : (Try.prog.bytesOf 49) = 56 := by kernel_rfl
theorem by54 : (Try.prog.bytesOf 54) = 56 := by kernel_rfl
theorem by58 : (Try.prog.bytesOf 58) = 24 := by kernel_rfl
theorem by60 : (Try.prog.bytesOf 60) = 80 := by kernel_rfl
theorem by99 : (Try.prog.bytesOf 99) = 2 := by kernel_rfl
attribute [go_sem] sz1 ag1 ze1 u2 sz2 ag2 ze2 u3 sz3 ag3 ze3 u4 sz4 ag4 ze4 ev4 u5 sz5 ag5 ze5 u6 sz6 ag6 ze6 sz7 ag7 ze7 fa7_0 fg7_0 fa7_1 fg7_1 fa7_2 fg7_2 fa7_3 fg7_3 sz8 ag8 ze8 fa8_0 fg8_0 fa8_1 fg8_1 fa8_2 fg8_2 fa8_3 fg8_3 u9 sz9 ag9 ze9 u10 sz10 ag10 ze10 u11 sz11 ag11 ze11 u12 sz12 ag12 ze12 sz13 ag13 ze13 fa13_0 fg13_0 fa13_1 fg13_1 sz14 ag14 ze14 fa14_0 fg14_0 fa14_1 fg14_1 u15 sz15 ag15 ze15 u16 sz16 ag16 ze16 u17 sz17 ag17 ze17 sz18 ag18 ze18 fa18_0 fg18_0 sz19 ag19 ze19 fa19_0 fg19_0 u21 sz21 ag21 ze21 sz22 ag22 ze22 fa22_0 fg22_0 fa22_1 fg22_1 sz23 ag23 ze23 fa23_0 fg23_0 fa23_1 fg23_1 ev23 eg23 u24 sz24 ag24 eo24 es24 gr24 df24 ze24 u25 sz25 ag25 eo25 es25 gr25 df25 ze25 sz26 ag26 ze26 fa26_0 fg26_0 fa26_1 fg26_1 fa26_2 fg26_2 sz27 ag27 ze27 fa27_0 fg27_0 fa27_1 fg27_1 fa27_2 fg27_2 sz28 ag28 ze28 fa28_0 fg28_0 fa28_1 fg28_1 fa28_2 fg28_2 sz29 ag29 ze29 fa29_0 fg29_0 fa29_1 fg29_1 fa29_2 fg29_2 u30 sz30 ag30 eo30 es30 gr30 df30 ze30 sz31 ag31 ze31 sz32 ag32 ze32 sz33 ag33 ze33 sz34 ag34 ze34 fa34_0 fg34_0 fa34_1 fg34_1 ev34 eg34 sz35 ag35 ze35 fa35_0 fg35_0 fa35_1 fg35_1 fa35_2 fg35_2 sz36 ag36 ze36 fa36_0 fg36_0 fa36_1 fg36_1 fa36_2 fg36_2 sz37 ag37 ze37 fa37_0 fg37_0 fa37_1 fg37_1 fa37_2 fg37_2 sz38 ag38 ze38 u39 sz39 ag39 eo39 es39 gr39 df39 ze39 sz40 ag40 ze40 sz41 ag41 ze41 sz42 ag42 ze42 sz43 ag43 ze43 sz44 ag44 ze44 sz45 ag45 ze45 sz46 ag46 ze46 sz47 ag47 ze47 sz48 ag48 ze48 fa48_0 fg48_0 fa48_1 fg48_1 fa48_2 fg48_2 sz49 ag49 ze49 fa49_0 fg49_0 fa49_1 fg49_1 fa49_2 fg49_2 sz50 ag50 ze50 sz51 ag51 ze51 sz52 ag52 ze52 sz53 ag53 ze53 sz54 ag54 ze54 fa54_0 fg54_0 fa54_1 fg54_1 fa54_2 fg54_2 u55 sz55 ag55 eo55 es55 gr55 df55 ze55 sz56 ag56 ze56 sz57 ag57 ze57 fa57_0 fg57_0 fa57_1 fg57_1 sz58 ag58 ze58 fa58_0 fg58_0 fa58_1 fg58_1 ev58 eg58 sz59 ag59 ze59 fa59_0 fg59_0 fa59_1 fg59_1 sz60 ag60 ze60 fa60_0 fg60_0 fa60_1 fg60_1 sz61 ag61 ze61 sz62 ag62 ze62 sz63 ag63 ze63 sz64 ag64 ze64 sz65 ag65 ze65 sz66 ag66 ze66 sz67 ag67 ze67 sz68 ag68 ze68 sz69 ag69 ze69 sz70 ag70 ze70 sz71 ag71 ze71 sz72 ag72 ze72 sz73 ag73 ze73 sz74 ag74 ze74 u75 sz75 ag75 eo75 es75 gr75 df75 ze75 sz76 ag76 ze76 sz77 ag77 ze77 sz78 ag78 ze78 sz79 ag79 ze79 sz80 ag80 ze80 sz81 ag81 ze81 sz82 ag82 ze82 sz83 ag83 ze83 sz84 ag84 ze84 sz85 ag85 ze85 sz86 ag86 ze86 sz87 ag87 ze87 sz88 ag88 ze88 sz89 ag89 ze89 sz90 ag90 ze90 sz91 ag91 ze91 sz92 ag92 ze92 sz93 ag93 ze93 sz94 ag94 ze94 sz95 ag95 ze95 sz96 ag96 ze96 sz97 ag97 ze97 sz98 ag98 ze98 u99 sz99 ag99 eo99 es99 ze99 u100 sz100 ag100 eo100 es100 gr100 df100 ze100 u101 sz101 ag101 eo101 es101 gr101 df101 ze101 sz102 ag102 ze102 sz103 ag103 ze103 sz104 ag104 ze104 sz106 ag106 ze106 sz107 ag107 ze107 fa107_0 fg107_0 fa107_1 fg107_1 fa107_2 fg107_2 fa107_3 fg107_3 sz108 ag108 ze108 fa108_0 fg108_0 fa108_1 fg108_1 fa108_2 fg108_2 fa108_3 fg108_3 u109 sz109 ag109 eo109 es109 ze109 sz110 ag110 ze110 sz111 ag111 ze111 sz112 ag112 ze112 u113 sz113 ag113 ze113 u114 sz114 ag114 ze114 u115 sz115 ag115 ze115 sz116 ag116 ze116 u117 sz117 ag117 ze117 u118 sz118 ag118 ze118 u119 sz119 ag119 ze119 sz120 ag120 ze120 fa120_0 fg120_0 fa120_1 fg120_1 fa120_2 fg120_2 fa120_3 fg120_3 fa120_4 fg120_4 fa120_5 fg120_5 fa120_6 fg120_6 fa120_7 fg120_7 fa120_8 fg120_8 fa120_9 fg120_9 fa120_10 fg120_10 sz121 ag121 ze121 fa121_0 fg121_0 fa121_1 fg121_1 fa121_2 fg121_2 fa121_3 fg121_3 fa121_4 fg121_4 fa121_5 fg121_5 fa121_6 fg121_6 fa121_7 fg121_7 fa121_8 fg121_8 fa121_9 fg121_9 fa121_10 fg121_10 by3 by5 by25 by49 by54 by58 by60 by99
attribute [go_sem high] bd7 xb7 bd8 xb8 bd13 xb13 bd14 xb14 bd18 xb18 bd19 xb19 bd22 xb22 bd23 xb23 bd26 xb26 bd27 xb27 bd28 xb28 bd29 xb29 bd34 xb34 bd35 xb35 bd36 xb36 bd37 xb37 bd48 xb48 bd49 xb49 bd54 xb54 bd57 xb57 bd58 xb58 bd59 xb59 bd60 xb60 bd107 xb107 bd108 xb108 bd120 xb120 bd121 xb121
end Go.Ev
namespace Go.Ev
open Go Go.Proofs
def hints : List (Nat × Hint) := [(4, ⟨[4, 23], [], [], [], [], [], []⟩),
  (5, ⟨[4, 26], [], [⟨0, [0, 1, 5], []⟩], [], [], [], []⟩),
  (6, ⟨[], [], [⟨0, [1, 2, 5, 6], [2]⟩, ⟨2, [1, 2, 7], [2]⟩, ⟨4, [1, 2, 7, 8, 9], [2]⟩], [], [], [], []⟩),
  (8, ⟨[2, 22], [7], [⟨0, [0, 3, 4], [7]⟩], [], [], [], []⟩),
  (9, ⟨[], [], [⟨0, [1, 2, 33, 34, 35], [2]⟩, ⟨2, [1, 2, 44, 45, 46], [2]⟩, ⟨4, [1, 2, 44, 45, 46, 54, 55, 56], [2, 9]⟩], [], [], [], []⟩),
  (11, ⟨[], [], [⟨0, [0, 1, 5], []⟩], [], [], [], []⟩),
  (12, ⟨[4, 19], [], [], [], [], [], []⟩),
  (13, ⟨[4, 23], [], [], [], [], [], []⟩),
  (14, ⟨[4, 26], [], [⟨0, [0, 1, 5], []⟩], [], [], [], []⟩),
  (15, ⟨[4, 25], [], [], [], [], [], []⟩),
  (16, ⟨[2, 3, 16, 47, 69, 90], [], [⟨0, [3, 4, 5, 6, 7, 8], [1, 7]⟩, ⟨2, [3, 4, 5, 6, 7, 8, 9], [1, 7]⟩, ⟨4, [3, 4, 5, 6, 7, 8, 9, 10], [1, 7]⟩], [], [], [], []⟩),
  (17, ⟨[], [], [⟨0, [1, 3, 4], [1]⟩], [], [], [], []⟩),
  (18, ⟨[], [], [⟨0, [1, 3], [1]⟩], [], [], [], []⟩),
  (19, ⟨[], [], [⟨0, [0, 3, 5], [3]⟩], [], [], [], []⟩),
  (20, ⟨[4, 5, 16, 47, 89, 104], [], [⟨0, [2, 3, 5, 6, 7], [2, 3]⟩, ⟨2, [2, 3, 5, 6, 7, 8, 9, 10], [2, 3]⟩], [], [], [], []⟩),
  (21, ⟨[2], [], [], [], [], [], []⟩),
  (24, ⟨[2, 22], [7], [⟨0, [0, 3, 4], [7]⟩], [], [], [], []⟩),
  (26, ⟨[2, 3, 8, 44, 84, 99], [], [⟨0, [1, 3, 4, 21, 22, 23], [1]⟩, ⟨2, [3, 7, 8, 62, 63, 64], [1, 7]⟩, ⟨4, [3, 7, 8, 10, 62, 63, 64, 70, 71, 72], [1, 7]⟩, ⟨6, [3, 7, 8, 10, 12, 62, 63, 64, 70, 71, 72, 78, 79, 80], [1, 7]⟩], [], [], [], []⟩),
  (27, ⟨[2], [], [], [], [], [], []⟩),
  (28, ⟨[2], [], [], [], [], [], []⟩),
  (29, ⟨[4], [], [], [], [], [], []⟩),
  (30, ⟨[2], [], [], [], [], [], []⟩),
  (31, ⟨[4, 122], [], [⟨0, [3, 5, 7, 8, 54, 55, 56], [2, 3, 5, 7, 8]⟩, ⟨2, [3, 5, 7, 8, 11, 13, 14, 54, 55, 56, 99, 100], [2, 3, 5, 7, 8, 10, 11, 12]⟩], [], [], [], []⟩),
  (34, ⟨[], [], [⟨0, [0, 1, 5], []⟩], [], [], [], []⟩),
  (36, ⟨[4, 11], [], [], [], [], [], []⟩),
  (37, ⟨[4], [], [], [], [], [], []⟩),
  (38, ⟨[], [], [⟨0, [1, 2, 3], [1, 2]⟩], [], [], [], []⟩),
  (39, ⟨[], [], [⟨0, [0, 1, 5], []⟩], [], [], [], []⟩),
  (40, ⟨[4], [], [], [], [], [], []⟩),
  (41, ⟨[], [], [⟨0, [5, 6], [2, 3]⟩], [], [], [], []⟩),
  (42, ⟨[2], [], [], [], [], [], []⟩),
  (43, ⟨[2], [], [], [], [], [], []⟩),
  (44, ⟨[], [8], [], [], [], [23], []⟩),
  (45, ⟨[6], [], [], [], [], [], []⟩),
  (46, ⟨[2, 21], [7], [⟨0, [0, 3, 4], [7]⟩], [], [], [], []⟩),
  (47, ⟨[4], [], [], [], [], [], []⟩),
  (48, ⟨[], [], [⟨0, [1, 2], [1, 2]⟩], [], [], [], []⟩),
  (49, ⟨[3], [], [], [], [], [], []⟩),
  (50, ⟨[6], [], [], [], [], [], []⟩),
  (51, ⟨[4], [], [], [], [], [], []⟩),
  (52, ⟨[4], [], [], [], [], [], []⟩),
  (53, ⟨[4], [], [], [], [], [], []⟩),
  (54, ⟨[2], [], [], [], [], [], []⟩),
  (55, ⟨[4], [], [], [], [], [], []⟩),
  (56, ⟨[3], [], [], [], [], [], []⟩),
  (57, ⟨[4], [], [], [], [], [], []⟩),
  (58, ⟨[3], [], [], [], [], [], []⟩),
  (59, ⟨[], [], [⟨0, [0, 3], []⟩], [], [], [], []⟩),
  (60, ⟨[2, 5, 59, 74, 87], [], [⟨0, [5, 49, 50, 51], [1]⟩], [], [], [], []⟩),
  (62, ⟨[7, 15], [7], [], [], [], [10], [21]⟩),
  (63, ⟨[2], [], [], [], [], [7], []⟩),
  (64, ⟨[2], [], [], [], [], [], []⟩),
  (65, ⟨[], [], [⟨0, [0, 1, 5], []⟩], [], [], [], []⟩),
  (66, ⟨[4, 20], [], [⟨0, [0, 1, 5, 6], []⟩], [], [], [], []⟩),
  (67, ⟨[4, 8, 9], [], [], [], [], [], []⟩),
  (68, ⟨[6], [], [], [], [], [], []⟩),
  (69, ⟨[], [], [⟨0, [0, 1, 5], []⟩], [], [], [], []⟩),
  (70, ⟨[2], [], [⟨0, [0, 3], []⟩], [], [], [], []⟩),
  (71, ⟨[2], [], [], [], [], [], []⟩),
  (72, ⟨[4, 5, 10, 11, 23, 32], [], [], [], [], [], []⟩),
  (74, ⟨[2], [], [], [], [], [], []⟩),
  (75, ⟨[2, 12], [], [⟨0, [0, 3], []⟩], [], [], [], []⟩),
  (76, ⟨[4], [], [], [], [], [], []⟩),
  (77, ⟨[4, 17], [], [⟨0, [0, 1, 7, 8], []⟩], [], [], [], []⟩),
  (78, ⟨[4, 17], [], [⟨0, [0, 1, 7, 8], []⟩], [], [], [], []⟩),
  (79, ⟨[4, 17], [], [⟨0, [0, 1, 7, 8], []⟩], [], [], [], []⟩),
  (80, ⟨[], [], [⟨0, [0, 1, 12, 13], []⟩], [], [], [], []⟩),
  (81, ⟨[2], [], [], [], [], [], []⟩),
  (82, ⟨[2], [], [], [], [], [], []⟩),
  (83, ⟨[6], [], [], [], [], [], []⟩),
  (84, ⟨[], [], [⟨0, [0, 3], []⟩], [], [], [], []⟩),
  (85, ⟨[6, 33], [], [⟨0, [0, 1, 2, 7, 8], []⟩], [], [], [], []⟩),
  (87, ⟨[], [], [⟨0, [0, 3], []⟩], [], [], [], []⟩),
  (88, ⟨[4, 5, 16, 25, 28], [], [⟨0, [0, 1, 5, 6], []⟩], [], [], [], []⟩),
  (89, ⟨[4, 5], [], [], [], [], [], []⟩)]
noncomputable def EE : Env := { P := Try.prog, H := fun f => ((hints.find? (·.1 == f)).map (·.2)).getD ⟨[], [], [], [], [], [], []⟩, orc := fun g vs => if g = 47 then idxO vs else none }
theorem EP : EE.P = Try.prog := rfl
theorem o47 (s : ByteArray) (c : Int) : EE.orc 47 [.str s, .int .u8 c] = some (.int .i64 (idxB s c)) := by kernel_rfl
theorem h3 : EE.H 3 = ⟨[], [], [], [], [], [], []⟩ := by kernel_rfl
theorem o3 (vs : List V) : EE.orc 3 vs = none := by kernel_rfl
theorem h4 : EE.H 4 = ⟨[4, 23], [], [], [], [], [], []⟩ := by kernel_rfl
theorem o4 (vs : List V) : EE.orc 4 vs = none := by kernel_rfl
theorem h5 : EE.H 5 = ⟨[4, 26], [], [⟨0, [0, 1, 5], []⟩], [], [], [], []⟩ := by kernel_rfl
theorem o5 (vs : List V) : EE.orc 5 vs = none := by kernel_rfl
theorem h6 : EE.H 6 = ⟨[], [], [⟨0, [1, 2, 5, 6], [2]⟩, ⟨2, [1, 2, 7], [2]⟩, ⟨4, [1, 2, 7, 8, 9], [2]⟩], [], [], [], []⟩ := by kernel_rfl
theorem o6 (vs : List V) : EE.orc 6 vs = none := by kernel_rfl
theorem h7 : EE.H 7 = ⟨[], [], [], [], [], [], []⟩ := by kernel_rfl
theorem o7 (vs : List V) : EE.orc 7 vs = none := by kernel_rfl
theorem h8 : EE.H 8 = ⟨[2, 22], [7], [⟨0, [0, 3, 4], [7]⟩], [], [], [], []⟩ := by kernel_rfl
theorem o8 (vs : List V) : EE.orc 8 vs = none := by kernel_rfl
theorem h9 : EE.H 9 = ⟨[], [], [⟨0, [1, 2, 33, 34, 35], [2]⟩, ⟨2, [1, 2, 44, 45, 46], [2]⟩, ⟨4, [1, 2, 44, 45, 46, 54, 55, 56], [2, 9]⟩], [], [], [], []⟩ := by kernel_rfl
theorem o9 (vs : List V) : EE.orc 9 vs = none := by kernel_rfl
theorem h10 : EE.H 10 = ⟨[], [], [], [], [], [], []⟩ := by kernel_rfl
theorem o10 (vs : List V) : EE.orc 10 vs = none := by kernel_rfl
theorem h11 : EE.H 11 = ⟨[], [], [⟨0, [0, 1, 5], []⟩], [], [], [], []⟩ := by kernel_rfl
theorem o11 (vs : List V) : EE.orc 11 vs = none := by kernel_rfl
theorem h12 : EE.H 12 = ⟨[4, 19], [], [], [], [], [], []⟩ := by kernel_rfl
theorem o12 (vs : List V) : EE.orc 12 vs = none := by kernel_rfl
theorem h13 : EE.H 13 = ⟨[4, 23], [], [], [], [], [], []⟩ := by kernel_rfl
theorem o13 (vs : List V) : EE.orc 13 vs = none := by kernel_rfl
theorem h14 : EE.H 14 = ⟨[4, 26], [], [⟨0, [0, 1, 5], []⟩], [], [], [], []⟩ := by kernel_rfl
theorem o14 (vs : List V) : EE.orc 14 vs = none := by kernel_rfl
theorem h15 : EE.H 15 = ⟨[4, 25], [], [], [], [], [], []⟩ := by kernel_rfl
theorem o15 (vs : List V) : EE.orc 15 vs = none := by kernel_rfl
theorem h16 : EE.H 16 = ⟨[2, 3, 16, 47, 69, 90], [], [⟨0, [3, 4, 5, 6, 7, 8], [1, 7]⟩, ⟨2, [3, 4, 5, 6, 7, 8, 9], [1, 7]⟩, ⟨4, [3, 4, 5, 6, 7, 8, 9, 10], [1, 7]⟩], [], [], [], []⟩ := by kernel_rfl
theorem o16 (vs : List V) : EE.orc 16 vs = none := by kernel_rfl
theorem h17 : EE.H 17 = ⟨[], [], [⟨0, [1, 3, 4], [1]⟩], [], [], [], []⟩ := by kernel_rfl
theorem o17 (vs : List V) : EE.orc 17 vs = none := by kernel_rfl
theorem h18 : EE.H 18 = ⟨[], [], [⟨0, [1, 3], [1]⟩], [], [], [], []⟩ := by kernel_rfl
theorem o18 (vs : List V) : EE.orc 18 vs = none := by kernel_rfl
theorem h19 : EE.H 19 = ⟨[], [], [⟨0, [0, 3, 5], [3]⟩], [], [], [], []⟩ := by kernel_rfl
theorem o19 (vs : List V) : EE.orc 19 vs = none := by kernel_rfl
theorem h20 : EE.H 20 = ⟨[4, 5, 16, 47, 89, 104], [], [⟨0, [2, 3, 5, 6, 7], [2, 3]⟩, ⟨2, [2, 3, 5, 6, 7, 8, 9, 10], [2, 3]⟩], [], [], [], []⟩ := by kernel_rfl
theorem o20 (vs : List V) : EE.orc 20 vs = none := by kernel_rfl
theorem h21 : EE.H 21 = ⟨[2], [], [], [], [], [], []⟩ := by kernel_rfl
theorem o21 (vs : List V) : EE.orc 21 vs = none := by kernel_rfl
theorem h22 : EE.H 22 = ⟨[], [], [], [], [], [], []⟩ := by kernel_rfl
theorem o22 (vs : List V) : EE.orc 22 vs = none := by kernel_rfl
theorem h23 : EE.H 23 = ⟨[], [], [], [], [], [], []⟩ := by kernel_rfl
theorem o23 (vs : List V) : EE.orc 23 vs = none := by kernel_rfl
theorem h24 : EE.H 24 = ⟨[2, 22], [7], [⟨0, [0, 3, 4], [7]⟩], [], [], [], []⟩ := by kernel_rfl
theorem o24 (vs : List V) : EE.orc 24 vs = none := by kernel_rfl
theorem h25 : EE.H 25 = ⟨[], [], [], [], [], [], []⟩ := by kernel_rfl
theorem o25 (vs : List V) : EE.orc 25 vs = none := by kernel_rfl
theorem h26 : EE.H 26 = ⟨[2, 3, 8, 44, 84, 99], [], [⟨0, [1, 3, 4, 21, 22, 23], [1]⟩, ⟨2, [3, 7, 8, 62, 63, 64], [1, 7]⟩, ⟨4, [3, 7, 8, 10, 62, 63, 64, 70, 71, 72], [1, 7]⟩, ⟨6, [3, 7, 8, 10, 12, 62, 63, 64, 70, 71, 72, 78, 79, 80], [1, 7]⟩], [], [], [], []⟩ := by kernel_rfl
theorem o26 (vs : List V) : EE.orc 26 vs = none := by kernel_rfl
theorem h27 : EE.H 27 = ⟨[2], [], [], [], [], [], []⟩ := by kernel_rfl
theorem o27 (vs : List V) : EE.orc 27 vs = none := by kernel_rfl
theorem h28 : EE.H 28 = ⟨[2], [], [], [], [], [], []⟩ := by kernel_rfl
theorem o28 (vs : List V) : EE.orc 28 vs = none := by kernel_rfl
theorem h29 : EE.H 29 = ⟨[4], [], [], [], [], [], []⟩ := by kernel_rfl
theorem o29 (vs : List V) : EE.orc 29 vs = none := by kernel_rfl
theorem h30 : EE.H 30 = ⟨[2], [], [], [], [], [], []⟩ := by kernel_rfl
theorem o30 (vs : List V) : EE.orc 30 vs = none := by kernel_rfl
theorem h31 : EE.H 31 = ⟨[4, 122], [], [⟨0, [3, 5, 7, 8, 54, 55, 56], [2, 3, 5, 7, 8]⟩, ⟨2, [3, 5, 7, 8, 11, 13, 14, 54, 55, 56, 99, 100], [2, 3, 5, 7, 8, 10, 11, 12]⟩], [], [], [], []⟩ := by kernel_rfl
theorem o31 (vs : List V) : EE.orc 31 vs = none := by kernel_rfl
theorem h32 : EE.H 32 = ⟨[], [], [], [], [], [], []⟩ := by kernel_rfl
theorem o32 (vs : List V) : EE.orc 32 vs = none := by kernel_rfl
theorem h33 : EE.H 33 = ⟨[], [], [], [], [], [], []⟩ := by kernel_rfl
theorem o33 (vs : List V) : EE.orc 33 vs = none := by kernel_rfl
theorem h34 : EE.H 34 = ⟨[], [], [⟨0, [0, 1, 5], []⟩], [], [], [], []⟩ := by kernel_rfl
theorem o34 (vs : List V) : EE.orc 34 vs = none := by kernel_rfl
theorem h35 : EE.H 35 = ⟨[], [], [], [], [], [], []⟩ := by kernel_rfl
theorem o35 (vs : List V) : EE.orc 35 vs = none := by kernel_rfl
theorem h36 : EE.H 36 = ⟨[4, 11], [], [], [], [], [], []⟩ := by kernel_rfl
theorem o36 (vs : List V) : EE.orc 36 vs = none := by kernel_rfl
theorem h37 : EE.H 37 = ⟨[4], [], [], [], [], [], []⟩ := by kernel_rfl
theorem o37 (vs : List V) : EE.orc 37 vs = none := by kernel_rfl
theorem h38 : EE.H 38 = ⟨[], [], [⟨0, [1, 2, 3], [1, 2]⟩], [], [], [], []⟩ := by kernel_rfl
theorem o38 (vs : List V) : EE.orc 38 vs = none := by kernel_rfl
theorem h39 : EE.H 39 = ⟨[], [], [⟨0, [0, 1, 5], []⟩], [], [], [], []⟩ := by kernel_rfl
theorem o39 (vs : List V) : EE.orc 39 vs = none := by kernel_rfl
theorem h40 : EE.H 40 = ⟨[4], [], [], [], [], [], []⟩ := by kernel_rfl
theorem o40 (vs : List V) : EE.orc 40 vs = none := by kernel_rfl
theorem h41 : EE.H 41 = ⟨[], [], [⟨0, [5, 6], [2, 3]⟩], [], [], [], []⟩ := by kernel_rfl
theorem o41 (vs : List V) : EE.orc 41 vs = none := by kernel_rfl
theorem h42 : EE.H 42 = ⟨[2], [], [], [], [], [], []⟩ := by kernel_rfl
theorem o42 (vs : List V) : EE.orc 42 vs = none := by kernel_rfl
theorem h43 : EE.H 43 = ⟨[2], [], [], [], [], [], []⟩ := by kernel_rfl
theorem o43 (vs : List V) : EE.orc 43 vs = none := by kernel_rfl
theorem h44 : EE.H 44 = ⟨[], [8], [], [], [], [23], []⟩ := by kernel_rfl
theorem o44 (vs : List V) : EE.orc 44 vs = none := by kernel_rfl
theorem h45 : EE.H 45 = ⟨[6], [], [], [], [], [], []⟩ := by kernel_rfl
theorem o45 (vs : List V) : EE.orc 45 vs = none := by kernel_rfl
theorem h46 : EE.H 46 = ⟨[2, 21], [7], [⟨0, [0, 3, 4], [7]⟩], [], [], [], []⟩ := by kernel_rfl
theorem o46 (vs : List V) : EE.orc 46 vs = none := by kernel_rfl
theorem h47 : EE.H 47 = ⟨[4], [], [], [], [], [], []⟩ := by kernel_rfl
theorem h48 : EE.H 48 = ⟨[], [], [⟨0, [1, 2], [1, 2]⟩], [], [], [], []⟩ := by kernel_rfl
theorem o48 (vs : List V) : EE.orc 48 vs = none := by kernel_rfl
theorem h49 : EE.H 49 = ⟨[3], [], [], [], [], [], []⟩ := by kernel_rfl
theorem o49 (vs : List V) : EE.orc 49 vs = none := by kernel_rfl
theorem h50 : EE.H 50 = ⟨[6], [], [], [], [], [], []⟩ := by kernel_rfl
theorem o50 (vs : List V) : EE.orc 50 vs = none := by kernel_rfl
theorem h51 : EE.H 51 = ⟨[4], [], [], [], [], [], []⟩ := by kernel_rfl
theorem o51 (vs : List V) : EE.orc 51 vs = none := by kernel_rfl
theorem h52 : EE.H 52 = ⟨[4], [], [], [], [], [], []⟩ := by kernel_rfl
theorem o52 (vs : List V) : EE.orc 52 vs = none := by kernel_rfl
theorem h53 : EE.H 53 = ⟨[4], [], [], [], [], [], []⟩ := by kernel_rfl
theorem o53 (vs : List V) : EE.orc 53 vs = none := by kernel_rfl
theorem h54 : EE.H 54 = ⟨[2], [], [], [], [], [], []⟩ := by kernel_rfl
theorem o54 (vs : List V) : EE.orc 54 vs = none := by kernel_rfl
theorem h55 : EE.H 55 = ⟨[4], [], [], [], [], [], []⟩ := by kernel_rfl
theorem o55 (vs : List V) : EE.orc 55 vs = none := by kernel_rfl
theorem h56 : EE.H 56 = ⟨[3], [], [], [], [], [], []⟩ := by kernel_rfl
theorem o56 (vs : List V) : EE.orc 56 vs = none := by kernel_rfl
theorem h57 : EE.H 57 = ⟨[4], [], [], [], [], [], []⟩ := by kernel_rfl
theorem o57 (vs : List V) : EE.orc 57 vs = none := by kernel_rfl
theorem h58 : EE.H 58 = ⟨[3], [], [], [], [], [], []⟩ := by kernel_rfl
theorem o58 (vs : List V) : EE.orc 58 vs = none := by kernel_rfl
theorem h59 : EE.H 59 = ⟨[], [], [⟨0, [0, 3], []⟩], [], [], [], []⟩ := by kernel_rfl
theorem o59 (vs : List V) : EE.orc 59 vs = none := by kernel_rfl
theorem h60 : EE.H 60 = ⟨[2, 5, 59, 74, 87], [], [⟨0, [5, 49, 50, 51], [1]⟩], [], [], [], []⟩ := by kernel_rfl
theorem o60 (vs : List V) : EE.orc 60 vs = none := by kernel_rfl
theorem h61 : EE.H 61 = ⟨[], [], [], [], [], [], []⟩ := by kernel_rfl
theorem o61 (vs : List V) : EE.orc 61 vs = none := by kernel_rfl
theorem h62 : EE.H 62 = ⟨[7, 15], [7], [], [], [], [10], [21]⟩ := by kernel_rfl
theorem o62 (vs : List V) : EE.orc 62 vs = none := by kernel_rfl
theorem h63 : EE.H 63 = ⟨[2], [], [], [], [], [7], []⟩ := by kernel_rfl
theorem o63 (vs : List V) : EE.orc 63 vs = none := by kernel_rfl
theorem h64 : EE.H 64 = ⟨[2], [], [], [], [], [], []⟩ := by kernel_rfl
theorem o64 (vs : List V) : EE.orc 64 vs = none := by kernel_rfl
theorem h65 : EE.H 65 = ⟨[], [], [⟨0, [0, 1, 5], []⟩], [], [], [], []⟩ := by kernel_rfl
theorem o65 (vs : List V) : EE.orc 65 vs = none := by kernel_rfl
theorem h66 : EE.H 66 = ⟨[4, 20], [], [⟨0, [0, 1, 5, 6], []⟩], [], [], [], []⟩ := by kernel_rfl
theorem o66 (vs : List V) : EE.orc 66 vs = none := by kernel_rfl
theorem h67 : EE.H 67 = ⟨[4, 8, 9], [], [], [], [], [], []⟩ := by kernel_rfl
theorem o67 (vs : List V) : EE.orc 67 vs = none := by kernel_rfl
theorem h68 : EE.H 68 = ⟨[6], [], [], [], [], [], []⟩ := by kernel_rfl
theorem o68 (vs : List V) : EE.orc 68 vs = none := by kernel_rfl
theorem h69 : EE.H 69 = ⟨[], [], [⟨0, [0, 1, 5], []⟩], [], [], [], []⟩ := by kernel_rfl
theorem o69 (vs : List V) : EE.orc 69 vs = none := by kernel_rfl
theorem h70 : EE.H 70 = ⟨[2], [], [⟨0, [0, 3], []⟩], [], [], [], []⟩ := by kernel_rfl
theorem o70 (vs : List V) : EE.orc 70 vs = none := by kernel_rfl
theorem h71 : EE.H 71 = ⟨[2], [], [], [], [], [], []⟩ := by kernel_rfl
theorem o71 (vs : List V) : EE.orc 71 vs = none := by kernel_rfl
theorem h72 : EE.H 72 = ⟨[4, 5, 10, 11, 23, 32], [], [], [], [], [], []⟩ := by kernel_rfl
theorem o72 (vs : List V) : EE.orc 72 vs = none := by kernel_rfl
theorem h73 : EE.H 73 = ⟨[], [], [], [], [], [], []⟩ := by kernel_rfl
theorem o73 (vs : List V) : EE.orc 73 vs = none := by kernel_rfl
theorem h74 : EE.H 74 = ⟨[2], [], [], [], [], [], []⟩ := by kernel_rfl
theorem o74 (vs : List V) : EE.orc 74 vs = none := by kernel_rfl
theorem h75 : EE.H 75 = ⟨[2, 12], [], [⟨0, [0, 3], []⟩], [], [], [], []⟩ := by kernel_rfl
theorem o75 (vs : List V) : EE.orc 75 vs = none := by kernel_rfl
theorem h76 : EE.H 76 = ⟨[4], [], [], [], [], [], []⟩ := by kernel_rfl
theorem o76 (vs : List V) : EE.orc 76 vs = none := by kernel_rfl
theorem h77 : EE.H 77 = ⟨[4, 17], [], [⟨0, [0, 1, 7, 8], []⟩], [], [], [], []⟩ := by kernel_rfl
theorem o77 (vs : List V) : EE.orc 77 vs = none := by kernel_rfl
theorem h78 : EE.H 78 = ⟨[4, 17], [], [⟨0, [0, 1, 7, 8], []⟩], [], [], [], []⟩ := by kernel_rfl
theorem o78 (vs : List V) : EE.orc 78 vs = none := by kernel_rfl
theorem h79 : EE.H 79 = ⟨[4, 17], [], [⟨0, [0, 1, 7, 8], []⟩], [], [], [], []⟩ := by kernel_rfl
theorem o79 (vs : List V) : EE.orc 79 vs = none := by kernel_rfl
theorem h80 : EE.H 80 = ⟨[], [], [⟨0, [0, 1, 12, 13], []⟩], [], [], [], []⟩ := by kernel_rfl
theorem o80 (vs : List V) : EE.orc 80 vs = none := by kernel_rfl
theorem h81 : EE.H 81 = ⟨[2], [], [], [], [], [], []⟩ := by kernel_rfl
theorem o81 (vs : List V) : EE.orc 81 vs = none := by kernel_rfl
theorem h82 : EE.H 82 = ⟨[2], [], [], [], [], [], []⟩ := by kernel_rfl
theorem o82 (vs : List V) : EE.orc 82 vs = none := by kernel_rfl
theorem h83 : EE.H 83 = ⟨[6], [], [], [], [], [], []⟩ := by kernel_rfl
theorem o83 (vs : List V) : EE.orc 83 vs = none := by kernel_rfl
theorem h84 : EE.H 84 = ⟨[], [], [⟨0, [0, 3], []⟩], [], [], [], []⟩ := by kernel_rfl
theorem o84 (vs : List V) : EE.orc 84 vs = none := by kernel_rfl
theorem h85 : EE.H 85 = ⟨[6, 33], [], [⟨0, [0, 1, 2, 7, 8], []⟩], [], [], [], []⟩ := by kernel_rfl
theorem o85 (vs : List V) : EE.orc 85 vs = none := by kernel_rfl
theorem h87 : EE.H 87 = ⟨[], [], [⟨0, [0, 3], []⟩], [], [], [], []⟩ := by kernel_rfl
theorem o87 (vs : List V) : EE.orc 87 vs = none := by kernel_rfl
theorem h88 : EE.H 88 = ⟨[4, 5, 16, 25, 28], [], [⟨0, [0, 1, 5, 6], []⟩], [], [], [], []⟩ := by kernel_rfl
theorem o88 (vs : List V) : EE.orc 88 vs = none := by kernel_rfl
theorem h89 : EE.H 89 = ⟨[4, 5], [], [], [], [], [], []⟩ := by kernel_rfl
theorem o89 (vs : List V) : EE.orc 89 vs = none := by kernel_rfl
attribute [go_sem] EP h3 o3 h4 o4 h5 o5 h6 o6 h7 o7 h8 o8 h9 o9 h10 o10 h11 o11 h12 o12 h13 o13 h14 o14 h15 o15 h16 o16 h17 o17 h18 o18 h19 o19 h20 o20 h21 o21 h22 o22 h23 o23 h24 o24 h25 o25 h26 o26 h27 o27 h28 o28 h29 o29 h30 o30 h31 o31 h32 o32 h33 o33 h34 o34 h35 o35 h36 o36 h37 o37 h38 o38 h39 o39 h40 o40 h41 o41 h42 o42 h43 o43 h44 o44 h45 o45 h46 o46 h47 o47 h48 o48 h49 o49 h50 o50 h51 o51 h52 o52 h53 o53 h54 o54 h55 o55 h56 o56 h57 o57 h58 o58 h59 o59 h60 o60 h61 o61 h62 o62 h63 o63 h64 o64 h65 o65 h66 o66 h67 o67 h68 o68 h69 o69 h70 o70 h71 o71 h72 o72 h73 o73 h74 o74 h75 o75 h76 o76 h77 o77 h78 o78 h79 o79 h80 o80 h81 o81 h82 o82 h83 o83 h84 o84 h85 o85 h87 o87 h88 o88 h89 o89
end Go.Ev
namespace Go.Ev
open Go Go.Proofs
set_option maxRecDepth 10000
set_option linter.unusedVariables false
set_option linter.unusedSimpArgs false
theorem ix77_1 (l : List Int) (hl : l.length ≤ 9223372036854775806) (p : Int → Bool) (g : Nat) (a : Nat) (os : List (Nat → Option Ob)) (ho : os.length ≠ 0) (hp : ∀ x ∈ l, ∀ b0 : Nat → Option Ob, run EE g (I x :: [.ptr 0 a 0]) (b0 :: os) = some (.bool (p x), b0 :: os)) (hu : (EE.H g).uniq = [] := by kernel_rfl) : run EE 77 [.slc false 1 (l.map I), .fn g [.ptr 0 a 0]] os = some (.int .i64 (posP p l 0), os) := by
  have ho2 : (0 != os.length) = true := by simp; omega
  rw [run_eq EE 77 _ _ Try.func77 (by decide +kernel) rfl (show 2 ≤ _ by decide)]
  dsimp only [Try.f77]
  simp only [go_sem, ho, ho2, hu, Bool.not_false, Bool.true_or, Bool.and_self]
  refine iter_inv (fun i : Nat => i ≤ l.length) (fun i => { t := upd (upd (upd (upd e0 8 (.int .i64 i)) 7 (.int .i64 l.length)) 1 (.fn g [.ptr 0 a 0])) 0 (.slc false 1 (l.map I)), b := n0, o := os, r := #[ResultVar.tmp 4], f := 77, n := 19 }) (fun i => some (.int .i64 (posP p (l.drop i) i), os)) (fun i => l.length - i) ?_ 0 (Nat.zero_le _)
  intro i hi ih
  by_cases h : i < l.length
  · have h1 : (i : Int) < l.length := by omega
    have w := wrap_nat (n := i) (by omega)
    have hx := hp l[i] (List.getElem_mem h) n0
    rw [List.drop_eq_getElem_cons h, posP]
    generalize p l[i] = q at hx ⊢
    try simp only [Rx.enc_eq, Vals.enc, Mor.enc, Sta.enc, Con.enc, Line.enc, Ans.enc, Prob.enc, Prog.enc, Ses.enc, Equ.enc, Mon.enc, Frm.enc, Mov.enc, Stp.enc, Dfa.enc, IL, I, B] at hx
    simp only [go_sem, h1, w, getD_map h, ho, ho2, hu, hx]
    cases q
    · simp only [go_sem, w, ho, ho2, hu, Bool.false_eq_true, if_false]
      exact ih (i + 1) (by omega) (by omega)
    · simp only [go_sem, if_true]
  · have h1 : ¬ (i : Int) < l.length := by omega
    rw [List.drop_eq_nil_of_le (by omega)]
    simp only [go_sem, h1, posP]
theorem cf51_1 (l : List Int) (hl : l.length ≤ 9223372036854775806) (p : Int → Bool) (g : Nat) (a : Nat) (os : List (Nat → Option Ob)) (ho : os.length ≠ 0) (hp : ∀ x ∈ l, ∀ b0 b1 : Nat → Option Ob, run EE g (I x :: [.ptr 0 a 0]) (b0 :: b1 :: os) = some (.bool (p x), b0 :: b1 :: os)) (hu : (EE.H g).uniq = [] := by kernel_rfl) : run EE 51 [.slc false 1 (l.map I), .fn g [.ptr 0 a 0]] os = some (.bool (l.any p), os) := by
  have hi := ix77_1 l hl p g a (n0 :: os) (by simp) (fun x hx b0 => hp x hx b0 n0) hu
  rw [run_eq EE 51 _ _ Try.func51 (by decide +kernel) rfl (show 2 ≤ _ by decide)]
  dsimp only [Try.f51]
  simp only [go_sem, ho, hu, hi, Bool.not_false, Bool.true_or, Bool.and_self]
  rw [← posP_any p l 0]

theorem ix78_1 (l : List (List Int)) (hl : l.length ≤ 9223372036854775806) (p : (List Int) → Bool) (g : Nat) (a : Nat) (os : List (Nat → Option Ob)) (ho : os.length ≠ 0) (hp : ∀ x ∈ l, ∀ b0 : Nat → Option Ob, run EE g (IL x :: [.ptr 0 a 0]) (b0 :: os) = some (.bool (p x), b0 :: os)) (hu : (EE.H g).uniq = [] := by kernel_rfl) : run EE 78 [.slc false 1 (l.map IL), .fn g [.ptr 0 a 0]] os = some (.int .i64 (posP p l 0), os) := by
  have ho2 : (0 != os.length) = true := by simp; omega
  rw [run_eq EE 78 _ _ Try.func78 (by decide +kernel) rfl (show 2 ≤ _ by decide)]
  dsimp only [Try.f78]
  simp only [go_sem, ho, ho2, hu, Bool.not_false, Bool.true_or, Bool.and_self]
  refine iter_inv (fun i : Nat => i ≤ l.length) (fun i => { t := upd (upd (upd (upd e0 8 (.int .i64 i)) 7 (.int .i64 l.length)) 1 (.fn g [.ptr 0 a 0])) 0 (.slc false 1 (l.map IL)), b := n0, o := os, r := #[ResultVar.tmp 4], f := 78, n := 19 }) (fun i => some (.int .i64 (posP p (l.drop i) i), os)) (fun i => l.length - i) ?_ 0 (Nat.zero_le _)
  intro i hi ih
  by_cases h : i < l.length
  · have h1 : (i : Int) < l.length := by omega
    have w := wrap_nat (n := i) (by omega)
    have hx := hp l[i] (List.getElem_mem h) n0
    rw [List.drop_eq_getElem_cons h, posP]
    generalize p l[i] = q at hx ⊢
    try simp only [Rx.enc_eq, Vals.enc, Mor.enc, Sta.enc, Con.enc, Line.enc, Ans.enc, Prob.enc, Prog.enc, Ses.enc, Equ.enc, Mon.enc, Frm.enc, Mov.enc, Stp.enc, Dfa.enc, IL, I, B] at hx
    simp only [go_sem, h1, w, getD_map h, ho, ho2, hu, hx]
    cases q
    · simp only [go_sem, w, ho, ho2, hu, Bool.false_eq_true, if_false]
      exact ih (i + 1) (by omega) (by omega)
    · simp only [go_sem, if_true]
  · have h1 : ¬ (i : Int) < l.length := by omega
    rw [List.drop_eq_nil_of_le (by omega)]
    simp only [go_sem, h1, posP]
theorem cf52_1 (l : List (List Int)) (hl : l.length ≤ 9223372036854775806) (p : (List Int) → Bool) (g : Nat) (a : Nat) (os : List (Nat → Option Ob)) (ho : os.length ≠ 0) (hp : ∀ x ∈ l, ∀ b0 b1 : Nat → Option Ob, run EE g (IL x :: [.ptr 0 a 0]) (b0 :: b1 :: os) = some (.bool (p x), b0 :: b1 :: os)) (hu : (EE.H g).uniq = [] := by kernel_rfl) : run EE 52 [.slc false 1 (l.map IL), .fn g [.ptr 0 a 0]] os = some (.bool (l.any p), os) := by
  have hi := ix78_1 l hl p g a (n0 :: os) (by simp) (fun x hx b0 => hp x hx b0 n0) hu
  rw [run_eq EE 52 _ _ Try.func52 (by decide +kernel) rfl (show 2 ≤ _ by decide)]
  dsimp only [Try.f52]
  simp only [go_sem, ho, hu, hi, Bool.not_false, Bool.true_or, Bool.and_self]
  rw [← posP_any p l 0]

theorem ix78_2 (l : List (List Int)) (hl : l.length ≤ 9223372036854775806) (p : (List Int) → Bool) (g : Nat) (a b : Nat) (os : List (Nat → Option Ob)) (ho : os.length ≠ 0) (hp : ∀ x ∈ l, ∀ b0 : Nat → Option Ob, run EE g (IL x :: [.ptr 0 a 0, .ptr 0 b 0]) (b0 :: os) = some (.bool (p x), b0 :: os)) (hu : (EE.H g).uniq = [] := by kernel_rfl) : run EE 78 [.slc false 1 (l.map IL), .fn g [.ptr 0 a 0, .ptr 0 b 0]] os = some (.int .i64 (posP p l 0), os) := by
  have ho2 : (0 != os.length) = true := by simp; omega
  rw [run_eq EE 78 _ _ Try.func78 (by decide +kernel) rfl (show 2 ≤ _ by decide)]
  dsimp only [Try.f78]
  simp only [go_sem, ho, ho2, hu, Bool.not_false, Bool.true_or, Bool.and_self]
  refine iter_inv (fun i : Nat => i ≤ l.length) (fun i => { t := upd (upd (upd (upd e0 8 (.int .i64 i)) 7 (.int .i64 l.length)) 1 (.fn g [.ptr 0 a 0, .ptr 0 b 0])) 0 (.slc false 1 (l.map IL)), b := n0, o := os, r := #[ResultVar.tmp 4], f := 78, n := 19 }) (fun i => some (.int .i64 (posP p (l.drop i) i), os)) (fun i => l.length - i) ?_ 0 (Nat.zero_le _)
  intro i hi ih
  by_cases h : i < l.length
  · have h1 : (i : Int) < l.length := by omega
    have w := wrap_nat (n := i) (by omega)
    have hx := hp l[i] (List.getElem_mem h) n0
    rw [List.drop_eq_getElem_cons h, posP]
    generalize p l[i] = q at hx ⊢
    try simp only [Rx.enc_eq, Vals.enc, Mor.enc, Sta.enc, Con.enc, Line.enc, Ans.enc, Prob.enc, Prog.enc, Ses.enc, Equ.enc, Mon.enc, Frm.enc, Mov.enc, Stp.enc, Dfa.enc, IL, I, B] at hx
    simp only [go_sem, h1, w, getD_map h, ho, ho2, hu, hx]
    cases q
    · simp only [go_sem, w, ho, ho2, hu, Bool.false_eq_true, if_false]
      exact ih (i + 1) (by omega) (by omega)
    · simp only [go_sem, if_true]
  · have h1 : ¬ (i : Int) < l.length := by omega
    rw [List.drop_eq_nil_of_le (by omega)]
    simp only [go_sem, h1, posP]
theorem cf52_2 (l : List (List Int)) (hl : l.length ≤ 9223372036854775806) (p : (List Int) → Bool) (g : Nat) (a b : Nat) (os : List (Nat → Option Ob)) (ho : os.length ≠ 0) (hp : ∀ x ∈ l, ∀ b0 b1 : Nat → Option Ob, run EE g (IL x :: [.ptr 0 a 0, .ptr 0 b 0]) (b0 :: b1 :: os) = some (.bool (p x), b0 :: b1 :: os)) (hu : (EE.H g).uniq = [] := by kernel_rfl) : run EE 52 [.slc false 1 (l.map IL), .fn g [.ptr 0 a 0, .ptr 0 b 0]] os = some (.bool (l.any p), os) := by
  have hi := ix78_2 l hl p g a b (n0 :: os) (by simp) (fun x hx b0 => hp x hx b0 n0) hu
  rw [run_eq EE 52 _ _ Try.func52 (by decide +kernel) rfl (show 2 ≤ _ by decide)]
  dsimp only [Try.f52]
  simp only [go_sem, ho, hu, hi, Bool.not_false, Bool.true_or, Bool.and_self]
  rw [← posP_any p l 0]

theorem ix78_0 (l : List (List Int)) (hl : l.length ≤ 9223372036854775806) (p : (List Int) → Bool) (g : Nat) (hg : ∀ vs, EE.orc g vs = none) (hp : ∀ x ∈ l, run EE g [IL x] [] = some (.bool (p x), [])) (hu : (EE.H g).uniq = [] := by kernel_rfl) : run EE 78 [.slc false 1 (l.map IL), .fn g []] [] = some (.int .i64 (posP p l 0), []) := by
  rw [run_eq EE 78 _ _ Try.func78 (by decide +kernel) rfl (show 2 ≤ _ by decide)]
  dsimp only [Try.f78]
  simp only [go_sem, hg, hu, Bool.not_false, Bool.true_or, Bool.and_self]
  refine iter_inv (fun i : Nat => i ≤ l.length) (fun i => { t := upd (upd (upd (upd e0 8 (.int .i64 i)) 7 (.int .i64 l.length)) 1 (.fn g [])) 0 (.slc false 1 (l.map IL)), b := n0, o := [], r := #[ResultVar.tmp 4], f := 78, n := 19 }) (fun i => some (.int .i64 (posP p (l.drop i) i), [])) (fun i => l.length - i) ?_ 0 (Nat.zero_le _)
  intro i hi ih
  by_cases h : i < l.length
  · have h1 : (i : Int) < l.length := by omega
    have w := wrap_nat (n := i) (by omega)
    have hx := hp l[i] (List.getElem_mem h)
    rw [List.drop_eq_getElem_cons h, posP]
    generalize p l[i] = q at hx ⊢
    try simp only [Rx.enc_eq, Vals.enc, Mor.enc, Sta.enc, Con.enc, Line.enc, Ans.enc, Prob.enc, Prog.enc, Ses.enc, Equ.enc, Mon.enc, Frm.enc, Mov.enc, Stp.enc, Dfa.enc, IL, I, B] at hx
    simp only [go_sem, h1, w, getD_map h, hg, hu, hx]
    cases q
    · simp only [go_sem, w, hg, hu, Bool.false_eq_true, if_false]
      exact ih (i + 1) (by omega) (by omega)
    · simp only [go_sem, if_true]
  · have h1 : ¬ (i : Int) < l.length := by omega
    rw [List.drop_eq_nil_of_le (by omega)]
    simp only [go_sem, h1, posP]
theorem cf52_0 (l : List (List Int)) (hl : l.length ≤ 9223372036854775806) (p : (List Int) → Bool) (g : Nat) (hg : ∀ vs, EE.orc g vs = none) (hp : ∀ x ∈ l, run EE g [IL x] [] = some (.bool (p x), [])) (hu : (EE.H g).uniq = [] := by kernel_rfl) : run EE 52 [.slc false 1 (l.map IL), .fn g []] [] = some (.bool (l.any p), []) := by
  have hi := ix78_0 l hl p g hg hp hu
  rw [run_eq EE 52 _ _ Try.func52 (by decide +kernel) rfl (show 2 ≤ _ by decide)]
  dsimp only [Try.f52]
  simp only [go_sem, hg, hu, hi, Bool.not_false, Bool.true_or, Bool.and_self]
  rw [← posP_any p l 0]

theorem ix79_1 (l : List Sta) (hl : l.length ≤ 9223372036854775806) (p : Sta → Bool) (g : Nat) (a : Nat) (os : List (Nat → Option Ob)) (ho : os.length ≠ 0) (hp : ∀ x ∈ l, ∀ b0 : Nat → Option Ob, run EE g (Sta.enc x :: [.ptr 0 a 0]) (b0 :: os) = some (.bool (p x), b0 :: os)) (hu : (EE.H g).uniq = [] := by kernel_rfl) : run EE 79 [.slc false 3 (l.map Sta.enc), .fn g [.ptr 0 a 0]] os = some (.int .i64 (posP p l 0), os) := by
  have ho2 : (0 != os.length) = true := by simp; omega
  rw [run_eq EE 79 _ _ Try.func79 (by decide +kernel) rfl (show 2 ≤ _ by decide)]
  dsimp only [Try.f79]
  simp only [go_sem, ho, ho2, hu, Bool.not_false, Bool.true_or, Bool.and_self]
  refine iter_inv (fun i : Nat => i ≤ l.length) (fun i => { t := upd (upd (upd (upd e0 8 (.int .i64 i)) 7 (.int .i64 l.length)) 1 (.fn g [.ptr 0 a 0])) 0 (.slc false 3 (l.map Sta.enc)), b := n0, o := os, r := #[ResultVar.tmp 4], f := 79, n := 19 }) (fun i => some (.int .i64 (posP p (l.drop i) i), os)) (fun i => l.length - i) ?_ 0 (Nat.zero_le _)
  intro i hi ih
  by_cases h : i < l.length
  · have h1 : (i : Int) < l.length := by omega
    have w := wrap_nat (n := i) (by omega)
    have hx := hp l[i] (List.getElem_mem h) n0
    rw [List.drop_eq_getElem_cons h, posP]
    generalize p l[i] = q at hx ⊢
    try simp only [Rx.enc_eq, Vals.enc, Mor.enc, Sta.enc, Con.enc, Line.enc, Ans.enc, Prob.enc, Prog.enc, Ses.enc, Equ.enc, Mon.enc, Frm.enc, Mov.enc, Stp.enc, Dfa.enc, IL, I, B] at hx
    simp only [go_sem, h1, w, getD_map h, ho, ho2, hu, hx]
    cases q
    · simp only [go_sem, w, ho, ho2, hu, Bool.false_eq_true, if_false]
      exact ih (i + 1) (by omega) (by omega)
    · simp only [go_sem, if_true]
  · have h1 : ¬ (i : Int) < l.length := by omega
    rw [List.drop_eq_nil_of_le (by omega)]
    simp only [go_sem, h1, posP]
theorem cf55_1 (l : List Sta) (hl : l.length ≤ 9223372036854775806) (p : Sta → Bool) (g : Nat) (a : Nat) (os : List (Nat → Option Ob)) (ho : os.length ≠ 0) (hp : ∀ x ∈ l, ∀ b0 b1 : Nat → Option Ob, run EE g (Sta.enc x :: [.ptr 0 a 0]) (b0 :: b1 :: os) = some (.bool (p x), b0 :: b1 :: os)) (hu : (EE.H g).uniq = [] := by kernel_rfl) : run EE 55 [.slc false 3 (l.map Sta.enc), .fn g [.ptr 0 a 0]] os = some (.bool (l.any p), os) := by
  have hi := ix79_1 l hl p g a (n0 :: os) (by simp) (fun x hx b0 => hp x hx b0 n0) hu
  rw [run_eq EE 55 _ _ Try.func55 (by decide +kernel) rfl (show 2 ≤ _ by decide)]
  dsimp only [Try.f55]
  simp only [go_sem, ho, hu, hi, Bool.not_false, Bool.true_or, Bool.and_self]
  rw [← posP_any p l 0]
end Go.Ev
namespace Go.Ev
open Go Go.Proofs
set_option maxRecDepth 10000
set_option linter.unusedVariables false
set_option linter.unusedSimpArgs false

theorem r64 (c : Int) (h : 0 ≤ c) (h' : c < 256) : run EE 64 [.int .u8 c] [] = some (.int .i64 (ltr c), []) := by
  rw [run_eq EE 64 _ _ Try.func64 (by decide +kernel) rfl (show 1 ≤ _ by decide)]
  dsimp only [Try.f64]
  simp only [go_sem, o47, idx_abc c h h']
theorem r75 (c : Int) : run EE 75 [.int .u8 c] [] = some (.int .i64 (ltr c), []) := by
  rw [run_eq EE 75 _ _ Try.func75 (by decide +kernel) rfl (show 1 ≤ _ by decide)]
  dsimp only [Try.f75]
  have b0 : bt ⟨#[97, 98, 99]⟩ 0 = 97 := by decide +kernel
  have b1 : bt ⟨#[97, 98, 99]⟩ 1 = 98 := by decide +kernel
  have b2 : bt ⟨#[97, 98, 99]⟩ 2 = 99 := by decide +kernel
  have hz : ByteArray.size ⟨#[97, 98, 99]⟩ = 3 := by decide
  simp only [go_sem, iter_eq, b0, hz]
  refine condL_bool (fun k => ?_) (fun k => ?_)
  · have e : c = 97 := by have := eq_of_beq k; omega
    subst e
    simp only [go_sem, ltr]
  · have e : ¬ c = 97 := by intro e; subst e; cases k
    simp only [go_sem, iter_eq, b1, hz]
    refine condL_bool (fun k => ?_) (fun k => ?_)
    · have e' : c = 98 := by have := eq_of_beq k; omega
      subst e'
      simp only [go_sem, ltr]
    · have e' : ¬ c = 98 := by intro e; subst e; cases k
      simp only [go_sem, iter_eq, b2, hz]
      refine condL_bool (fun k => ?_) (fun k => ?_)
      · have e'' : c = 99 := by have := eq_of_beq k; omega
        subst e''
        simp only [go_sem, ltr]
      · have e'' : ¬ c = 99 := by intro e; subst e; cases k
        simp only [go_sem, iter_eq, ltr, e, e', e'']
theorem r68 (a b c : Int) : run EE 68 [.int .i64 a, .int .i64 b, .int .i64 c] [] = some (.bool (decide (b ≤ a) && decide (a ≤ c)), []) := by
  rw [run_eq EE 68 _ _ Try.func68 (by decide +kernel) rfl (show 3 ≤ _ by decide)]
  dsimp only [Try.f68]
  simp only [go_sem]
  refine guardL_bool (fun k => ?_) (fun k => ?_) <;> simp only [go_sem, k, ge_iff_le, Bool.true_and, Bool.false_and] at k ⊢ <;> simp only [go_sem, k, Bool.true_and, Bool.false_and]
theorem r50 (a b c : Int) : run EE 50 [.int .i64 a, .int .i64 b, .int .i64 c] [] = some (.bool (decide (b ≤ a) && decide (a ≤ c)), []) := by
  rw [run_eq EE 50 _ _ Try.func50 (by decide +kernel) rfl (show 3 ≤ _ by decide)]
  dsimp only [Try.f50]
  simp only [go_sem]
  refine guardL_bool (fun k => ?_) (fun k => ?_) <;> simp only [go_sem, k, ge_iff_le, Bool.true_and, Bool.false_and] at k ⊢ <;> simp only [go_sem, k, Bool.true_and, Bool.false_and]
end Go.Ev
namespace Go.Ev
open Go Go.Proofs
set_option maxRecDepth 10000
set_option linter.unusedVariables false
set_option linter.unusedSimpArgs false

theorem r39 (l : List Int) (hl : l.length ≤ 1048576) (n : Nat) (hn : n ≤ 1048576) : run EE 39 [.slc false 1 (l.map I), .int .i64 n] [] = some (.bool (nums n l), []) := by
  have w0 : IntKind.i64.wrap ((n : Int) - 1) = (n : Int) - 1 := wrap_in (by omega) (by omega)
  rw [run_eq EE 39 _ _ Try.func39 (by decide +kernel) rfl (show 2 ≤ _ by decide)]
  dsimp only [Try.f39]
  simp only [go_sem]
  refine iter_inv (fun i : Nat => i ≤ l.length) (fun i => { t := upd (upd (upd e0 5 (.int .i64 i)) 1 (.int .i64 n)) 0 (.slc false 1 (l.map I)), b := n0, o := [], r := #[ResultVar.tmp 4], f := 39, n := 20 }) (fun i => some (.bool (nums n (l.drop i)), [])) (fun i => l.length - i) ?_ 0 (Nat.zero_le _)
  intro i hi ih
  unfold nums at ih ⊢
  by_cases h : i < l.length
  · have h1 : (i : Int) < l.length := by omega
    have w := wrap_nat (n := i) (by omega)
    rw [List.drop_eq_getElem_cons h, List.all_cons]
    have f := r68 l[i] 0 ((n : Int) - 1)
    cases c : (decide (0 ≤ l[i]) && decide (l[i] ≤ (n : Int) - 1))
    · rw [c] at f
      simp only [go_sem, h1, w0, getD_map h, f, Bool.not_false, Bool.false_and]
    · rw [c] at f
      simp only [go_sem, h1, w0, w, getD_map h, f, Bool.not_true, Bool.true_and]
      exact ih (i + 1) (by omega) (by omega)
  · have h1 : ¬ (i : Int) < l.length := by omega
    rw [List.drop_eq_nil_of_le (by omega), List.all_nil]
    simp only [go_sem, h1]
theorem r17 (m : Mon) (h1 : m.maps.length ≤ 1048576) (h2 : m.letters.length ≤ 1048576) (h3 : m.product.length ≤ 1048576) (h4 : ∀ r ∈ m.product, r.length ≤ 1048576) : run EE 17 [m.enc] [] = some (.bool (goodM m), []) := by
  have f := r39 m.letters h2 m.maps.length h1
  rw [run_eq EE 17 _ _ Try.func17 (by decide +kernel) rfl (show 1 ≤ _ by decide)]
  dsimp only [Try.f17]
  unfold goodM
  cases k1 : ((m.maps.length : Int) == 0)
  rotate_left
  · simp only [go_sem, k1, Bool.not_true, Bool.false_and]
  cases k2 : ((m.letters.length : Int) == 3)
  · simp only [go_sem, k1, bne, k2, Bool.not_false, Bool.true_and, Bool.false_and]
  cases k3 : ((m.product.length : Int) == m.maps.length)
  · simp only [go_sem, k1, bne, k2, k3, Bool.not_false, Bool.not_true, Bool.true_and, Bool.false_and]
  cases k4 : nums m.maps.length m.letters
  · rw [k4] at f
    simp only [go_sem, k1, bne, k2, k3, f, Bool.not_false, Bool.not_true, Bool.true_and, Bool.false_and]
  rw [k4] at f
  simp only [go_sem, k1, bne, k2, k3, f, Bool.not_false, Bool.not_true, Bool.true_and]
  have hn : m.product.length = m.maps.length := by have := eq_of_beq k3; omega
  refine iter_inv (fun i : Nat => i ≤ m.product.length) (fun i => { t := upd (upd (upd e0 4 (.int .i64 i)) 3 (.int .i64 m.maps.length)) 1 (.ptr 0 1 0), b := upd n0 1 (some (Ob.box [.slc false 1 (m.maps.map IL), .slc false 1 (m.letters.map I), .slc false 1 (m.product.map IL)])), o := [], r := #[ResultVar.tmp 2], f := 17, n := 53 }) (fun i => some (.bool ((m.product.drop i).all (rowN m.maps.length)), [])) (fun i => m.product.length - i) ?_ 0 (Nat.zero_le _)
  intro i hi ih
  by_cases h : i < m.product.length
  rotate_left
  · have k1 : ¬ (i : Int) < m.maps.length := by omega
    rw [List.drop_eq_nil_of_le (by omega)]
    simp only [go_sem, k1, List.all_nil]
  have k1' : (i : Int) < m.maps.length := by omega
  have k1'' : (i : Int) < m.product.length := by omega
  have w := wrap_nat (n := i) (by omega)
  rw [List.drop_eq_getElem_cons h, List.all_cons]
  have ihn := ih (i + 1) (by omega) (by omega)
  clear ih
  have hr := h4 m.product[i] (List.getElem_mem h)
  generalize hrow : m.product[i] = row at hr ⊢
  have hget : ∀ dd : V, (m.product.map IL).getD i dd = IL row := fun dd => by rw [getD_map h, hrow]
  have g := r39 row hr m.maps.length h1
  unfold rowN at ihn ⊢
  cases k5 : ((row.length : Int) == m.maps.length)
  · simp only [go_sem, k1', k1'', hget, bne, k5, Bool.not_false, Bool.false_and]
  cases k6 : nums m.maps.length row
  · rw [k6] at g
    simp only [go_sem, k1', k1'', hget, bne, k5, g, Bool.not_false, Bool.not_true, Bool.false_and, Bool.and_false]
  · rw [k6] at g
    simp only [go_sem, k1', k1'', hget, bne, k5, g, w, Bool.not_true, Bool.true_and]
    exact ihn
theorem r49 (q n : Int) (a : Nat) (os : List (Nat → Option Ob)) (ho : os.length ≠ 0) (hob : obIn a 0 os = some (.box [.int .i64 n])) (h0 : 0 ≤ n) (h1 : n ≤ 1048576) : run EE 49 [.int .i64 q, .ptr 0 a 0] os = some (.bool (!(decide (0 ≤ q) && decide (q ≤ n - 1))), os) := by
  have w := wrap_in (n := n - 1) (by omega) (by omega)
  have f := r50 q 0 (n - 1)
  have ho' : ¬ 0 = os.length := fun e => ho e.symm
  rw [run_eq EE 49 _ _ Try.func49 (by decide +kernel) rfl (show 2 ≤ _ by decide)]
  dsimp only [Try.f49]
  simp only [go_sem, ho', hob, w, f]
theorem r58 (q : Int) (l : List (List Int)) (c2 c3 : V) (a : Nat) (os : List (Nat → Option Ob)) (ho : os.length ≠ 0) (hob : obIn a 0 os = some (.box [.slc false 1 (l.map IL), c2, c3])) (h1 : l.length ≤ 1048576) : run EE 58 [.int .i64 q, .ptr 0 a 0] os = some (.bool (!(decide (0 ≤ q) && decide (q ≤ (l.length : Int) - 1))), os) := by
  have w := wrap_in (n := (l.length : Int) - 1) (by omega) (by omega)
  have f := r50 q 0 ((l.length : Int) - 1)
  have ho' : ¬ 0 = os.length := fun e => ho e.symm
  rw [run_eq EE 58 _ _ Try.func58 (by decide +kernel) rfl (show 2 ≤ _ by decide)]
  dsimp only [Try.f58]
  simp only [go_sem, ho', hob, w, f]
theorem r53 (row : List Int) (hl : row.length ≤ 1048576) (n : Nat) (a b : Nat) (os : List (Nat → Option Ob)) (ho : os.length ≠ 0) (hob : obIn a 0 os = some (.box [.int .i64 n])) (hob2 : obIn b 0 os = some (.box [.fn 49 [.ptr 0 a 0]])) (h1 : n ≤ 1048576) : run EE 53 [IL row, .ptr 0 a 0, .ptr 0 b 0] os = some (.bool (!rowN n row), os) := by
  have f := cf51_1 row (by omega) (fun q => !(decide (0 ≤ q) && decide (q ≤ (n : Int) - 1))) 49 a (n0 :: os) (by simp) (fun x _ b0 b1 => r49 x n a _ (by simp) (by rw [obIn_cons (by simp), obIn_cons (by simp), obIn_cons ho]; exact hob) (by omega) (by omega))
  rw [any_not] at f
  have ho' : ¬ 0 = os.length := fun e => ho e.symm
  rw [run_eq EE 53 _ _ Try.func53 (by decide +kernel) rfl (show 3 ≤ _ by decide)]
  dsimp only [Try.f53]
  unfold rowN nums
  cases k : ((row.length : Int) == n)
  · simp only [go_sem, bne, ho', hob, k, Bool.not_false, Bool.false_and]
  · simp only [go_sem, bne, ho', hob, hob2, k, f, Bool.not_true, Bool.not_false, Bool.true_and]
end Go.Ev
namespace Go.Ev
open Go Go.Proofs
set_option maxRecDepth 10000
set_option linter.unusedVariables false
set_option linter.unusedSimpArgs false

theorem r27 (m : Mon) (h1 : m.maps.length ≤ 1048576) (h2 : m.letters.length ≤ 1048576) (h3 : m.product.length ≤ 1048576) (h4 : ∀ r ∈ m.product, r.length ≤ 1048576) : run EE 27 [m.enc] [] = some (.bool (goodM m), []) := by
  rw [run_eq EE 27 _ _ Try.func27 (by decide +kernel) rfl (show 1 ≤ _ by decide)]
  dsimp only [Try.f27]
  unfold goodM
  cases k1 : ((m.maps.length : Int) == 0)
  rotate_left
  · simp only [go_sem, k1, Bool.not_true, Bool.false_and]
  cases k2 : ((m.letters.length : Int) == 3)
  · simp only [go_sem, k1, bne, k2, Bool.not_false, Bool.true_and, Bool.false_and]
  have f := fun (b : Nat → Option Ob) (hb : b 3 = some (.box [.int .i64 (m.maps.length : Int)])) => cf51_1 m.letters (by omega) (fun q => !(decide (0 ≤ q) && decide (q ≤ (m.maps.length : Int) - 1))) 49 3 [b] (by simp) (fun x hx b0 b1 => r49 x m.maps.length 3 _ (by simp) hb (by omega) (by omega))
  simp only [any_not] at f
  have fn : m.letters.all (fun q => decide (0 ≤ q) && decide (q ≤ (m.maps.length : Int) - 1)) = nums m.maps.length m.letters := rfl
  rw [fn] at f
  cases k4 : nums m.maps.length m.letters
  · rw [k4] at f
    simp only [go_sem, k1, bne, k2, Bool.not_false, Bool.not_true, Bool.true_and]
    rw [f _ rfl]
    simp only [go_sem, Bool.not_false, Bool.false_and, Bool.and_false]
  rw [k4] at f
  cases k3 : ((m.product.length : Int) == m.maps.length)
  · simp only [go_sem, k1, bne, k2, Bool.not_false, Bool.not_true, Bool.true_and]
    rw [f _ rfl]
    simp only [go_sem, k1, bne, k2, k3, Bool.not_false, Bool.not_true, Bool.true_and, Bool.false_and]
  have g := fun (b : Nat → Option Ob) (hb : b 3 = some (.box [.int .i64 (m.maps.length : Int)])) (hb2 : b 4 = some (.box [.fn 49 [.ptr 0 3 0]])) => cf52_2 m.product (by omega) (fun row => !rowN m.maps.length row) 53 3 4 [b] (by simp) (fun x hx b0 b1 => r53 x (h4 x hx) m.maps.length 3 4 _ (by simp) hb hb2 (by omega))
  simp only [any_not] at g
  simp only [go_sem, k1, bne, k2, Bool.not_false, Bool.not_true, Bool.true_and]
  rw [f _ rfl]
  simp only [go_sem, k1, bne, k2, k3, Bool.not_false, Bool.not_true, Bool.true_and]
  rw [g _ rfl rfl]
  simp only [go_sem, Bool.not_not]
theorem r54 (l : List Int) : run EE 54 [IL l] [] = some (.bool ((l.length : Int) == 0), []) := by
  rw [run_eq EE 54 _ _ Try.func54 (by decide +kernel) rfl (show 1 ≤ _ by decide)]
  dsimp only [Try.f54]
  simp only [go_sem]
theorem r28 (f : Frm) (h1 : f.allowed.length ≤ 1048576) : run EE 28 [f.enc] [] = some (.bool (((f.allowed.length : Int) == 3) && noM f.allowed), []) := by
  have g := cf52_0 f.allowed (by omega) (fun l => ((l.length : Int) == 0)) 54 (fun _ => o54 _) (fun x hx => r54 x)
  rw [run_eq EE 28 _ _ Try.func28 (by decide +kernel) rfl (show 1 ≤ _ by decide)]
  dsimp only [Try.f28]
  cases k : ((f.allowed.length : Int) == 3)
  · simp only [go_sem, k, Bool.false_and]
  · simp only [go_sem, k, g, Bool.true_and]
    rfl
theorem r18 (f : Frm) (h0 : f.mon.maps.length ≤ 1048576) (h2 : f.mon.letters.length ≤ 1048576) (h3 : f.mon.product.length ≤ 1048576) (h4 : ∀ r ∈ f.mon.product, r.length ≤ 1048576) (h1 : f.allowed.length ≤ 1048576) :
    run EE 18 [f.enc] [] = some (.bool (((f.allowed.length : Int) == 3) && (goodM f.mon && noM f.allowed)), []) := by
  have g := r17 f.mon h0 h2 h3 h4
  simp only [Mon.enc] at g
  rw [run_eq EE 18 _ _ Try.func18 (by decide +kernel) rfl (show 1 ≤ _ by decide)]
  dsimp only [Try.f18]
  cases k : ((f.allowed.length : Int) == 3)
  · simp only [go_sem, bne, k, Bool.not_false, Bool.false_and]
  cases k2 : goodM f.mon
  · rw [k2] at g
    simp only [go_sem, bne, k, g, Bool.not_false, Bool.not_true, Bool.true_and, Bool.false_and]
  rw [k2] at g
  simp only [go_sem, bne, k, g, Bool.not_false, Bool.not_true, Bool.true_and]
  refine iter_inv (fun i : Nat => i ≤ f.allowed.length) (fun i => { t := upd (upd e0 3 (.int .i64 i)) 1 (.ptr 0 1 0), b := upd n0 1 (some (Ob.box [.str f.equ.left, .str f.equ.right, .slc false 1 (f.mon.maps.map IL), .slc false 1 (f.mon.letters.map I), .slc false 1 (f.mon.product.map IL), .slc false 1 (f.allowed.map IL)])), o := [], r := #[ResultVar.tmp 2], f := 18, n := 28 }) (fun i => some (.bool (noM (f.allowed.drop i)), [])) (fun i => f.allowed.length - i) ?_ 0 (Nat.zero_le _)
  intro i hi ih
  unfold noM at ih ⊢
  by_cases h : i < f.allowed.length
  · have h1 : (i : Int) < f.allowed.length := by omega
    have w := wrap_nat (n := i) (by omega)
    rw [List.drop_eq_getElem_cons h, List.any_cons]
    cases c : ((f.allowed[i].length : Int) == 0)
    · simp only [go_sem, h1, w, getD_map h, c, Bool.false_or]
      exact ih (i + 1) (by omega) (by omega)
    · simp only [go_sem, h1, getD_map h, c, Bool.true_or]
  · have h1 : ¬ (i : Int) < f.allowed.length := by omega
    rw [List.drop_eq_nil_of_le (by omega), List.any_nil]
    simp only [go_sem, h1]
theorem r69 (l m : List Int) (hl : l.length ≤ 1048576) (hm : m.length ≤ 1048576) : run EE 69 [.slc false 1 (l.map I), .slc false 1 (m.map I)] [] = some (.bool (l == m), []) := by
  rw [run_eq EE 69 _ _ Try.func69 (by decide +kernel) rfl (show 2 ≤ _ by decide)]
  dsimp only [Try.f69]
  cases k : ((l.length : Int) == m.length)
  · have hne : (l == m) = false := by
      rw [beq_eq_false_iff_ne]
      rintro rfl
      simp at k
    simp only [go_sem, bne, k, Bool.not_false, hne]
  have hn : l.length = m.length := by have := eq_of_beq k; omega
  simp only [go_sem, bne, k, Bool.not_true]
  refine iter_inv (fun i : Nat => i ≤ l.length) (fun i => { t := upd (upd (upd e0 5 (.int .i64 i)) 1 (.slc false 1 (m.map I))) 0 (.slc false 1 (l.map I)), b := n0, o := [], r := #[ResultVar.tmp 4], f := 69, n := 26 }) (fun i => some (.bool (l.drop i == m.drop i), [])) (fun i => l.length - i) ?_ 0 (Nat.zero_le _)
  intro i hi ih
  by_cases h : i < l.length
  · have h1 : (i : Int) < l.length := by omega
    have h2 : (i : Int) < m.length := by omega
    have w := wrap_nat (n := i) (by omega)
    have h' : i < m.length := by omega
    rw [drop_beq h h']
    simp only [go_sem, h1]
    rw [q_drs]
    rotate_left
    · kernel_rfl
    cases c : (l[i] == m[i])
    · simp only [go_sem, h1, h2, getD_map h, getD_map h', bne, c, Bool.not_false, Bool.false_and]
    · simp only [go_sem, h1, h2, w, getD_map h, getD_map h', bne, c, Bool.not_true, Bool.true_and]
      exact ih (i + 1) (by omega) (by omega)
  · have h1 : ¬ (i : Int) < l.length := by omega
    rw [List.drop_eq_nil_of_le (by omega), List.drop_eq_nil_of_le (by omega)]
    simp only [go_sem, h1]
theorem r80 (l m : List Int) (hl : l.length ≤ 1048576) (hm : m.length ≤ 1048576) : run EE 80 [.slc false 1 (l.map I), .slc false 1 (m.map I)] [] = some (.bool (l == m), []) := by
  rw [run_eq EE 80 _ _ Try.func80 (by decide +kernel) rfl (show 2 ≤ _ by decide)]
  dsimp only [Try.f80]
  cases k : ((l.length : Int) == m.length)
  · have hne : (l == m) = false := by
      rw [beq_eq_false_iff_ne]
      rintro rfl
      simp at k
    simp only [go_sem, bne, k, Bool.not_false, hne]
  have hn : l.length = m.length := by have := eq_of_beq k; omega
  simp only [go_sem, bne, k, Bool.not_true]
  refine iter_inv (fun i : Nat => i ≤ l.length) (fun i => { t := upd (upd (upd (upd e0 13 (.int .i64 i)) 12 (.int .i64 l.length)) 1 (.slc false 1 (m.map I))) 0 (.slc false 1 (l.map I)), b := n0, o := [], r := #[ResultVar.tmp 4], f := 80, n := 26 }) (fun i => some (.bool (l.drop i == m.drop i), [])) (fun i => l.length - i) ?_ 0 (Nat.zero_le _)
  intro i hi ih
  by_cases h : i < l.length
  · have h1 : (i : Int) < l.length := by omega
    have h2 : (i : Int) < m.length := by omega
    have w := wrap_nat (n := i) (by omega)
    have h' : i < m.length := by omega
    rw [drop_beq h h']
    simp only [go_sem, h1]
    rw [q_drs]
    rotate_left
    · kernel_rfl
    cases c : (l[i] == m[i])
    · simp only [go_sem, h1, h2, getD_map h, getD_map h', bne, c, Bool.not_false, Bool.false_and]
    · simp only [go_sem, h1, h2, w, getD_map h, getD_map h', bne, c, Bool.not_true, Bool.true_and]
      exact ih (i + 1) (by omega) (by omega)
  · have h1 : ¬ (i : Int) < l.length := by omega
    rw [List.drop_eq_nil_of_le (by omega), List.drop_eq_nil_of_le (by omega)]
    simp only [go_sem, h1]
end Go.Ev
namespace Go.Ev
open Go Go.Proofs
set_option maxRecDepth 10000
set_option linter.unusedVariables false
set_option linter.unusedSimpArgs false

theorem r40 (x y : Sta) (h1 : x.maps.length ≤ 1048576) (h2 : y.maps.length ≤ 1048576) : run EE 40 [x.enc, y.enc] [] = some (.bool (eqSta x y), []) := by
  have f := r69 x.maps y.maps h1 h2
  rw [run_eq EE 40 _ _ Try.func40 (by decide +kernel) rfl (show 2 ≤ _ by decide)]
  dsimp only [Try.f40]
  unfold eqSta
  cases k1 : (x.left.toList == y.left.toList)
  · simp only [go_sem, k1, Bool.false_and]
  cases k2 : (x.right.toList == y.right.toList)
  · simp only [go_sem, k1, k2, Bool.false_and, Bool.true_and]
  · simp only [go_sem, k1, k2, f, Bool.true_and]
theorem r57 (x y : Sta) (h1 : x.maps.length ≤ 1048576) (h2 : y.maps.length ≤ 1048576) : run EE 57 [x.enc, y.enc] [] = some (.bool (eqSta x y), []) := by
  have f := r80 x.maps y.maps h1 h2
  rw [run_eq EE 57 _ _ Try.func57 (by decide +kernel) rfl (show 2 ≤ _ by decide)]
  dsimp only [Try.f57]
  unfold eqSta
  cases k1 : (x.left.toList == y.left.toList)
  · simp only [go_sem, k1, Bool.false_and]
  cases k2 : (x.right.toList == y.right.toList)
  · simp only [go_sem, k1, k2, Bool.false_and, Bool.true_and]
  · simp only [go_sem, k1, k2, f, Bool.true_and]
theorem r21 (x : Sta) : run EE 21 [x.enc] [] = some (.bool (solved x), []) := by
  rw [run_eq EE 21 _ _ Try.func21 (by decide +kernel) rfl (show 1 ≤ _ by decide)]
  dsimp only [Try.f21]
  unfold solved
  cases k1 : decide (x.left.size = 0)
  · simp only [go_sem, toList_nil, k1, Bool.false_and]
  · simp only [go_sem, toList_nil, k1, Bool.true_and]
theorem r30 (x : Sta) : run EE 30 [x.enc] [] = some (.bool (solved x), []) := by
  rw [run_eq EE 30 _ _ Try.func30 (by decide +kernel) rfl (show 1 ≤ _ by decide)]
  dsimp only [Try.f30]
  unfold solved
  cases k1 : decide (x.left.size = 0)
  · simp only [go_sem, toList_nil, k1, Bool.false_and]
  · simp only [go_sem, toList_nil, k1, Bool.true_and]
theorem r19 (l : List Sta) (s : Sta) (h0 : l.length ≤ 1048576) (h1 : ∀ x ∈ l, x.maps.length ≤ 1048576) (h2 : s.maps.length ≤ 1048576) : run EE 19 [.slc false 3 (l.map Sta.enc), s.enc] [] = some (.bool (l.any fun x => eqSta x s), []) := by
  rw [run_eq EE 19 _ _ Try.func19 (by decide +kernel) rfl (show 2 ≤ _ by decide)]
  dsimp only [Try.f19]
  simp only [go_sem]
  refine iter_inv (fun i : Nat => i ≤ l.length) (fun i => { t := upd (upd (upd e0 5 (.int .i64 i)) 3 (.ptr 0 3 0)) 0 (.slc false 3 (l.map Sta.enc)), b := upd n0 3 (some (Ob.box [.str s.left, .str s.right, .slc false 1 (s.maps.map I)])), o := [], r := #[ResultVar.tmp 4], f := 19, n := 18 }) (fun i => some (.bool ((l.drop i).any fun x => eqSta x s), [])) (fun i => l.length - i) ?_ 0 (Nat.zero_le _)
  intro i hi ih
  by_cases h : i < l.length
  · have k1 : (i : Int) < l.length := by omega
    have w := wrap_nat (n := i) (by omega)
    have f := r40 l[i] s (h1 _ (List.getElem_mem h)) h2
    simp only [Sta.enc] at f
    rw [List.drop_eq_getElem_cons h, List.any_cons]
    simp only [go_sem, k1]
    rw [q_drs]
    rotate_left
    · kernel_rfl
    cases c : eqSta l[i] s
    · rw [c] at f
      simp only [go_sem, k1, w, getD_map h, f, Bool.false_or]
      exact ih (i + 1) (by omega) (by omega)
    · rw [c] at f
      simp only [go_sem, k1, w, getD_map h, f, Bool.true_or]
  · have k1 : ¬ (i : Int) < l.length := by omega
    rw [List.drop_eq_nil_of_le (by omega), List.any_nil]
    simp only [go_sem, k1]
theorem r56 (x s : Sta) (h1 : x.maps.length ≤ 1048576) (h2 : s.maps.length ≤ 1048576) (a : Nat) (os : List (Nat → Option Ob)) (ho : os.length ≠ 0) (hob : obIn a 0 os = some (.box [.str s.left, .str s.right, .slc false 1 (s.maps.map I)])) : run EE 56 [x.enc, .ptr 0 a 0] os = some (.bool (eqSta x s), os) := by
  have f := r57 x s h1 h2
  simp only [Sta.enc] at f
  have ho' : ¬ 0 = os.length := fun e => ho e.symm
  rw [run_eq EE 56 _ _ Try.func56 (by decide +kernel) rfl (show 2 ≤ _ by decide)]
  dsimp only [Try.f56]
  simp only [go_sem, ho', hob, f]
theorem r29 (l : List Sta) (s : Sta) (h0 : l.length ≤ 1048576) (h1 : ∀ x ∈ l, x.maps.length ≤ 1048576) (h2 : s.maps.length ≤ 1048576) : run EE 29 [.slc false 3 (l.map Sta.enc), s.enc] [] = some (.bool (l.any fun x => eqSta x s), []) := by
  have f := fun (b : Nat → Option Ob) (hb : b 3 = some (.box [.str s.left, .str s.right, .slc false 1 (s.maps.map I)])) => cf55_1 l (by omega) (fun x => eqSta x s) 56 3 [b] (by simp) (fun x hx b0 b1 => r56 x s (h1 x hx) h2 3 _ (by simp) hb)
  rw [run_eq EE 29 _ _ Try.func29 (by decide +kernel) rfl (show 2 ≤ _ by decide)]
  dsimp only [Try.f29]
  simp only [go_sem]
  rw [f _ rfl]
  simp only [go_sem]
end Go.Ev
namespace Go.Ev
open Go Go.Proofs
set_option maxRecDepth 10000
set_option linter.unusedVariables false
set_option linter.unusedSimpArgs false

theorem r81 (c : Int) (h : 0 ≤ c) (h' : c < 256) : run EE 81 [.int .u8 c] [] = some (.bool (isVar c), []) := by
  rw [run_eq EE 81 _ _ Try.func81 (by decide +kernel) rfl (show 1 ≤ _ by decide)]
  dsimp only [Try.f81]
  simp only [go_sem, o47, isVar_idx c h h']
theorem r74 (c : Int) : run EE 74 [.int .u8 c] [] = some (.bool (isVar c), []) := by
  rw [run_eq EE 74 _ _ Try.func74 (by decide +kernel) rfl (show 1 ≤ _ by decide)]
  dsimp only [Try.f74]
  simp only [go_sem]
  refine guardL_bool (fun k => ?_) (fun k => ?_) <;> simp only [go_sem, k, isVar, Bool.true_and, Bool.false_and]
theorem r67 (a b : Int) : run EE 67 [.int .i64 a, .int .i64 b] [] = some (.int .i64 (if a < b then a else b), []) := by
  rw [run_eq EE 67 _ _ Try.func67 (by decide +kernel) rfl (show 2 ≤ _ by decide)]
  dsimp only [Try.f67]
  simp only [go_sem]
  refine condL_dec (fun k => ?_) (fun k => ?_) <;> simp only [go_sem, k]
theorem r43 (c : Int) (h : 0 ≤ c) (h' : c < 256) : run EE 43 [.int .u8 c] [] = some (.int .i64 (c - 88), []) := by
  rw [run_eq EE 43 _ _ Try.func43 (by decide +kernel) rfl (show 1 ≤ _ by decide)]
  dsimp only [Try.f43]
  have w1 : IntKind.i64.wrap c = c := wrap_in (by omega) (by omega)
  have w2 : IntKind.i64.wrap (c - 88) = c - 88 := wrap_in (by omega) (by omega)
  simp only [go_sem, w1, w2]
theorem r59 (s : ByteArray) (hs : s.size ≤ 9223372036854775806) : run EE 59 [.str s] [] = some (.bool (allB sideB s 0), []) := by
  rw [run_eq EE 59 _ _ Try.func59 (by decide +kernel) rfl (show 1 ≤ _ by decide)]
  dsimp only [Try.f59]
  simp only [go_sem]
  refine iter_rule (fun i : Nat => { t := upd (upd e0 3 (.int .i64 i)) 0 (.str s), b := n0, o := [], r := #[ResultVar.tmp 2], f := 59, n := 28 }) (fun i => some (.bool (allB sideB s i), [])) (fun i => s.size - i) ?_ 0
  intro i ih
  by_cases h : i < s.size
  · have h1 : (i : Int) < s.size := by omega
    have w := wrap_nat (n := i) (by omega)
    have f1 := r64 (bt s i) (bt_nonneg s i) (bt_lt s i)
    have f2 := r81 (bt s i) (bt_nonneg s i) (bt_lt s i)
    have hp : sideB (bt s i) = !((bt s i != 35) && (decide (ltr (bt s i) < 0) && !(isVar (bt s i)))) := by
      unfold sideB
      rw [bne]
      cases (bt s i == 35) <;> cases isVar (bt s i) <;> by_cases k : ltr (bt s i) < 0 <;> simp [k] <;> omega
    rw [allB_next sideB s h, hp]
    simp only [go_sem, h1, f1, f2]
    repeat (first | refine guardL_bool (fun c => ?_) (fun c => ?_) <;> simp only [go_sem, h1, f1, f2, w, c] | refine condL_bool (fun c => ?_) (fun c => ?_) <;> simp only [go_sem, h1, f1, f2, w, c])
    all_goals try simp only [*, Bool.true_and, Bool.false_and, Bool.not_true, Bool.not_false, Bool.and_true]
    all_goals exact ih (i + 1) (by omega)
  · have h1 : ¬ (i : Int) < s.size := by omega
    rw [allB_end sideB s h]
    simp only [go_sem, h1]
end Go.Ev
namespace Go.Ev
open Go Go.Proofs
set_option maxRecDepth 10000
set_option linter.unusedVariables false
set_option linter.unusedSimpArgs false

theorem r84 (s : ByteArray) (hs : s.size ≤ 9223372036854775806) : run EE 84 [.str s] [] = some (.bool (!allB isVar s 0), []) := by
  rw [run_eq EE 84 _ _ Try.func84 (by decide +kernel) rfl (show 1 ≤ _ by decide)]
  dsimp only [Try.f84]
  simp only [go_sem]
  refine iter_rule (fun i : Nat => { t := upd (upd e0 3 (.int .i64 i)) 0 (.str s), b := n0, o := [], r := #[ResultVar.tmp 2], f := 84, n := 15 }) (fun i => some (.bool (!allB isVar s i), [])) (fun i => s.size - i) ?_ 0
  intro i ih
  by_cases h : i < s.size
  · have h1 : (i : Int) < s.size := by omega
    have w := wrap_nat (n := i) (by omega)
    have f2 := r74 (bt s i)
    rw [allB_next isVar s h]
    simp only [go_sem, h1, f2]
    refine condL_bool (fun c => ?_) (fun c => ?_)
    · have c' : isVar (bt s i) = false := by simpa using c
      simp only [go_sem, c', Bool.false_and, Bool.not_false]
    · have c' : isVar (bt s i) = true := by simpa using c
      simp only [go_sem, c', Bool.true_and, w]
      exact ih (i + 1) (by omega)
  · have h1 : ¬ (i : Int) < s.size := by omega
    rw [allB_end isVar s h]
    simp only [go_sem, h1, Bool.not_true]
theorem r87 (s : ByteArray) (hs : s.size ≤ 9223372036854775806) : run EE 87 [.str s] [] = some (.bool (allB isVar s 0), []) := by
  rw [run_eq EE 87 _ _ Try.func87 (by decide +kernel) rfl (show 1 ≤ _ by decide)]
  dsimp only [Try.f87]
  simp only [go_sem]
  refine iter_rule (fun i : Nat => { t := upd (upd e0 3 (.int .i64 i)) 0 (.str s), b := n0, o := [], r := #[ResultVar.tmp 2], f := 87, n := 15 }) (fun i => some (.bool (allB isVar s i), [])) (fun i => s.size - i) ?_ 0
  intro i ih
  by_cases h : i < s.size
  · have h1 : (i : Int) < s.size := by omega
    have w := wrap_nat (n := i) (by omega)
    have f2 := r81 (bt s i) (bt_nonneg s i) (bt_lt s i)
    rw [allB_next isVar s h]
    simp only [go_sem, h1, f2]
    refine condL_bool (fun c => ?_) (fun c => ?_)
    · have c' : isVar (bt s i) = false := by simpa using c
      simp only [go_sem, c', Bool.false_and, Bool.not_false]
    · have c' : isVar (bt s i) = true := by simpa using c
      simp only [go_sem, c', Bool.true_and, w]
      exact ih (i + 1) (by omega)
  · have h1 : ¬ (i : Int) < s.size := by omega
    rw [allB_end isVar s h]
    simp only [go_sem, h1]
theorem r70 (s : ByteArray) (hs : s.size ≤ 9223372036854775806) : run EE 70 [.str s] [] = some (.bool (allB sideB s 0 && decide ((s.size : Int) ≤ 24)), []) := by
  rw [run_eq EE 70 _ _ Try.func70 (by decide +kernel) rfl (show 1 ≤ _ by decide)]
  dsimp only [Try.f70]
  simp only [go_sem]
  refine iter_rule (fun i : Nat => { t := upd (upd e0 3 (.int .i64 i)) 0 (.str s), b := n0, o := [], r := #[ResultVar.tmp 2], f := 70, n := 31 }) (fun i => some (.bool (allB sideB s i && decide ((s.size : Int) ≤ 24)), [])) (fun i => s.size - i) ?_ 0
  intro i ih
  by_cases h : i < s.size
  · have h1 : (i : Int) < s.size := by omega
    have w := wrap_nat (n := i) (by omega)
    have f1 := r75 (bt s i)
    have f2 := r74 (bt s i)
    have hp : sideB (bt s i) = !(decide (ltr (bt s i) < 0) && (!(isVar (bt s i)) && (bt s i != 35))) := by
      unfold sideB
      rw [bne]
      cases (bt s i == 35) <;> cases isVar (bt s i) <;> by_cases k : ltr (bt s i) < 0 <;> simp [k] <;> omega
    rw [allB_next sideB s h, hp]
    simp only [go_sem, h1, f1, f2]
    repeat (first | refine guardL_bool (fun c => ?_) (fun c => ?_) <;> simp only [go_sem, h1, f1, f2, w, c] | refine condL_bool (fun c => ?_) (fun c => ?_) <;> simp only [go_sem, h1, f1, f2, w, c])
    all_goals try simp only [*, Bool.true_and, Bool.false_and, Bool.not_true, Bool.not_false, Bool.and_true]
    all_goals exact ih (i + 1) (by omega)
  · have h1 : ¬ (i : Int) < s.size := by omega
    rw [allB_end sideB s h]
    simp only [go_sem, h1, Bool.true_and]
theorem r66 (s : ByteArray) (b : Int) (hs : s.size ≤ 9223372036854775806) : run EE 66 [.str s, .int .u8 b] [] = some (.int .i64 (cntB b s 0), []) := by
  rw [run_eq EE 66 _ _ Try.func66 (by decide +kernel) rfl (show 2 ≤ _ by decide)]
  dsimp only [Try.f66]
  simp only [go_sem]
  refine (iter_inv (fun x : Nat × Nat => x.2 ≤ x.1) (fun x => { t := upd (upd (upd (upd e0 6 (.int .i64 x.1)) 5 (.int .i64 x.2)) 1 (.int .u8 b)) 0 (.str s), b := n0, o := [], r := #[ResultVar.tmp 4], f := 66, n := 21 }) (fun x => some (.int .i64 ((x.2 + cntB b s x.1 : Nat) : Int), [])) (fun x => s.size - x.1) ?_ (0, 0) (Nat.le_refl _)).trans (by simp)
  rintro ⟨i, n⟩ hn ih
  dsimp only at hn ⊢
  by_cases h : i < s.size
  · have h1 : (i : Int) < s.size := by omega
    have w := wrap_nat (n := i) (by omega)
    have w' := wrap_nat (n := n) (by omega)
    rw [cntB_next b s h]
    simp only [go_sem, h1]
    refine condL_bool (fun c => ?_) (fun c => ?_)
    · have c' : bt s i = b := by simpa using c
      simp only [go_sem, c', w, w', if_true]
      rw [ih (i + 1, n + 1) (by show n + 1 ≤ i + 1; omega) (by show s.size - (i + 1) < s.size - i; omega)]
      refine congrArg some (congrArg (·, []) (congrArg (V.int .i64) ?_))
      dsimp only
      omega
    · have c' : ¬ bt s i = b := by simpa using c
      simp only [go_sem, c', w, w', if_false]
      rw [ih (i + 1, n) (by show n ≤ i + 1; omega) (by show s.size - (i + 1) < s.size - i; omega)]
  · have h1 : ¬ (i : Int) < s.size := by omega
    rw [cntB_end b s h]
    simp only [go_sem, h1, Nat.add_zero]
theorem r38 (e : Equ) (hl : e.left.size ≤ 9223372036854775806) (hr : e.right.size ≤ 9223372036854775806) : run EE 38 [e.enc] [] = some ((strip e).enc, []) := by
  rw [run_eq EE 38 _ _ Try.func38 (by decide +kernel) rfl (show 1 ≤ _ by decide)]
  dsimp only [Try.f38]
  simp only [go_sem]
  refine iter_inv (fun i : Nat => i ≤ e.left.size ∧ i ≤ e.right.size) (fun i => { t := upd (upd (upd e0 3 (.int .i64 i)) 2 (.ptr 0 2 0)) 1 (.ptr 0 1 0), b := upd (upd n0 2 (some (Ob.box [.str ⟨#[]⟩, .str ⟨#[]⟩]))) 1 (some (Ob.box [.str e.left, .str e.right])), o := [], r := #[ResultVar.cell 2 34], f := 38, n := 38 }) (fun i => some ((Equ.mk (ext e.left (lcp e.left e.right i)) (ext e.right (lcp e.left e.right i))).enc, [])) (fun i => e.left.size - i) ?_ 0 ⟨Nat.zero_le _, Nat.zero_le _⟩
  rintro i ⟨hi, hi'⟩ ih

  simp only [go_sem]
  rw [q_drs]
  rotate_left
  · kernel_rfl
  have g1 : (i : Int) ≤ e.left.size := by omega
  have g2 : (i : Int) ≤ e.right.size := by omega
  by_cases h1 : i < e.left.size
  rotate_left
  · have k1 : ¬ (i : Int) < e.left.size := by omega
    rw [lcp_end (by omega)]
    simp only [go_sem, k1]
    rw [q_drs]
    rotate_left
    · kernel_rfl
    simp only [go_sem, k1, g1, g2, ext]
  have k1 : (i : Int) < e.left.size := by omega
  by_cases h2 : i < e.right.size
  rotate_left
  · have k2 : ¬ (i : Int) < e.right.size := by omega
    rw [lcp_end (by omega)]
    simp only [go_sem, k1, k2]
    rw [q_drs]
    rotate_left
    · kernel_rfl
    simp only [go_sem, g1, g2, ext]
  have k2 : (i : Int) < e.right.size := by omega
  by_cases h3 : bt e.left i = bt e.right i
  rotate_left
  · have k3 : (bt e.left i == bt e.right i) = false := by simpa using h3
    rw [lcp_end (by omega)]
    simp only [go_sem, k1, k2, k3]
    rw [q_drs]
    rotate_left
    · kernel_rfl
    simp only [go_sem, g1, g2, ext]
  have k3 : (bt e.left i == bt e.right i) = true := by simpa using h3
  have w := wrap_nat (n := i) (by omega)
  rw [lcp_next h1 h2 h3]
  simp only [go_sem, k1, k2, k3, w]
  exact ih (i + 1) ⟨by omega, by omega⟩ (by omega)
theorem r48 (e : Equ) (hl : e.left.size ≤ 9223372036854775806) (hr : e.right.size ≤ 9223372036854775806) : run EE 48 [e.enc] [] = some ((strip e).enc, []) := by
  rw [run_eq EE 48 _ _ Try.func48 (by decide +kernel) rfl (show 1 ≤ _ by decide)]
  dsimp only [Try.f48]
  simp only [go_sem]
  refine (congrArg (iter EE _ _) ?_).trans (iter_inv (fun i : Nat => i ≤ e.left.size ∧ i ≤ e.right.size) (fun i => { t := upd (upd e0 2 (.ptr 0 2 0)) 1 (.ptr 0 1 0), b := upd (upd n0 2 (some (Ob.box [.str ⟨#[]⟩, .str ⟨#[]⟩]))) 1 (some (Ob.box [.str (ext e.left i), .str (ext e.right i)])), o := [], r := #[ResultVar.cell 2 34], f := 48, n := 29 }) (fun i => some ((Equ.mk (ext e.left (lcp e.left e.right i)) (ext e.right (lcp e.left e.right i))).enc, [])) (fun i => e.left.size - i) ?_ 0 ⟨Nat.zero_le _, Nat.zero_le _⟩)
  · rw [ext_zero, ext_zero]
  rintro i ⟨hi, hi'⟩ ih
  simp only [go_sem]
  rw [q_drs]
  rotate_left
  · kernel_rfl
  have z1 : ((ext e.left i).toList == (ByteArray.mk #[]).toList) = decide ((ext e.left i).size = 0) := toList_nil _
  have z2 : ((ext e.right i).toList == (ByteArray.mk #[]).toList) = decide ((ext e.right i).size = 0) := toList_nil _
  by_cases h1 : i < e.left.size
  rotate_left
  · have k1 : (ext e.left i).size = 0 := by rw [ext_size]; omega
    rw [lcp_end (by omega)]
    simp only [go_sem, z1, k1, Bool.not_true]
  have k1 : ¬ (ext e.left i).size = 0 := by rw [ext_size]; omega
  by_cases h2 : i < e.right.size
  rotate_left
  · have k2 : (ext e.right i).size = 0 := by rw [ext_size]; omega
    rw [lcp_end (by omega)]
    simp only [go_sem, z1, z2, k1, k2, Bool.not_true, Bool.not_false]
  have k2 : ¬ (ext e.right i).size = 0 := by rw [ext_size]; omega
  have p1 : (0 : Int) < (ext e.left i).size := by omega
  have p2 : (0 : Int) < (ext e.right i).size := by omega
  have p3 : (1 : Int) ≤ ((e.left.size - i : Nat) : Int) := by omega
  have p4 : (1 : Int) ≤ ((e.right.size - i : Nat) : Int) := by omega
  by_cases h3 : bt e.left i = bt e.right i
  rotate_left
  · have k3 : (bt e.left i == bt e.right i) = false := by simpa using h3
    rw [lcp_end (by omega)]
    simp only [go_sem, z1, z2, k1, k2, p1, p2, ext_bt0 e.left i h1, ext_bt0 e.right i h2, k3, Bool.not_false]
  have k3 : (bt e.left i == bt e.right i) = true := by simpa using h3
  rw [lcp_next h1 h2 h3]
  simp only [go_sem, z1, z2, k1, k2, p1, p2, ext_bt0 e.left i h1, ext_bt0 e.right i h2, k3, Bool.not_false]
  rw [q_drs]
  rotate_left
  · kernel_rfl
  simp only [go_sem, p3, p4, ext_size]
  rw [ext_ext, ext_ext]
  exact ih (i + 1) ⟨by omega, by omega⟩ (by omega)
theorem r85 (s : ByteArray) (c : Int) (b : ByteArray) (hs : s.size ≤ 9223372036854775806) (hb : b.size ≤ 1048576) : run EE 85 [.str s, .int .u8 c, .str b] [] = some (.str (repV s c b), []) := by
  rw [run_eq EE 85 _ _ Try.func85 (by decide +kernel) rfl (show 3 ≤ _ by decide)]
  dsimp only [Try.f85]
  simp only [go_sem]
  refine iter_inv (fun x : Nat × ByteArray => x.2.size ≤ 1048576) (fun x => { t := upd (upd (upd (upd (upd e0 8 (.int .i64 x.1)) 7 (.str x.2)) 2 (.str b)) 1 (.int .u8 c)) 0 (.str s), b := n0, o := [], r := #[ResultVar.tmp 6], f := 85, n := 34 }) (fun x => some (.str (repl (fun i => if bt s i = c then b else one s i) s x.1 x.2), [])) (fun x => s.size - x.1) ?_ (0, ⟨#[]⟩) (by decide)
  rintro ⟨i, out⟩ ho ih
  dsimp only at ho ⊢
  by_cases h : i < s.size
  · have h1 : (i : Int) < s.size := by omega
    have h2 : ((i + 1 : Nat) : Int) ≤ s.size := by omega
    have h3 : (i : Int) ≤ ((i + 1 : Nat) : Int) := by omega
    have w := wrap_nat (n := i) (by omega)
    have o1 := one_size s i h
    have a1 : ¬ ((out.size + b.size : Nat) : Int) > 9223372036854775807 := by omega
    have a2 : ¬ ((out.size + (one s i).size : Nat) : Int) > 9223372036854775807 := by omega
    have eo : s.extract i (i + 1) = one s i := rfl
    rw [repl_next h]
    simp only [go_sem, h1]
    refine condL_bool (fun k => ?_) (fun k => ?_)
    · have k' : bt s i = c := by simpa using k
      rw [if_pos k']
      simp only [go_sem, a1, k']
      refine condL_dec (fun z => ?_) (fun z => ?_)
      · rw [if_pos (by omega)]
        simp only [go_sem]
      · rw [if_neg (by omega)]
        simp only [go_sem, w]
        exact ih (i + 1, out ++ b) (by show (out ++ b).size ≤ 1048576; omega) (by show s.size - (i + 1) < s.size - i; omega)
    · have k' : ¬ bt s i = c := by simpa using k
      rw [if_neg k']
      simp only [go_sem, w, h2, h3, eo, a2, k']
      refine condL_dec (fun z => ?_) (fun z => ?_)
      · rw [if_pos (by omega)]
        simp only [go_sem]
      · rw [if_neg (by omega)]
        simp only [go_sem, w]
        exact ih (i + 1, out ++ one s i) (by show (out ++ one s i).size ≤ 1048576; omega) (by show s.size - (i + 1) < s.size - i; omega)
  · have h1 : ¬ (i : Int) < s.size := by omega
    rw [repl_end h]
    simp only [go_sem, h1]
theorem r89 (c n : Int) (b : ByteArray) (b' o : Nat → Option Ob) (h4 : o 4 = some (Ob.box [.int .u8 n])) (h5 : o 5 = some (Ob.box [.str b])) : run EE 89 [.int .u8 c, .ptr 0 5 0, .ptr 0 4 0] [b', o] = some (.tup [.str b, .bool (c == n)], [b', o]) := by
  rw [run_eq EE 89 _ _ Try.func89 (by decide +kernel) rfl (show 3 ≤ _ by decide)]
  dsimp only [Try.f89]
  simp only [go_sem]
  rw [q_drs]
  rotate_left
  · kernel_rfl
  simp only [go_sem, h4, h5]
theorem r88 (s : ByteArray) (g a d : Nat) (F : Int → ByteArray × Bool) (o : Nat → Option Ob) (hs : s.size ≤ 9223372036854775806) (hb : ∀ c, (F c).1.size ≤ 1048576)
    (ho : ∀ vs, EE.orc g vs = none) (hu : (EE.H g).uniq = []) (hF : ∀ (c : Int) (b' : Nat → Option Ob), 0 ≤ c → c < 256 → run EE g [.int .u8 c, .ptr 0 a 0, .ptr 0 d 0] [b', o] = some (.tup [.str (F c).1, .bool (F c).2], [b', o])) :
    run EE 88 [.str s, .fn g [.ptr 0 a 0, .ptr 0 d 0]] [o] = some (.str (repl (fun i => if (F (bt s i)).2 = true then (F (bt s i)).1 else one s i) s 0 ⟨#[]⟩), [o]) := by
  rw [run_eq EE 88 _ _ Try.func88 (by decide +kernel) rfl (show 2 ≤ _ by decide)]
  dsimp only [Try.f88]
  simp only [go_sem]
  refine iter_inv (fun x : Nat × ByteArray => x.2.size ≤ 1048576) (fun x => { t := upd (upd (upd (upd e0 6 (.int .i64 x.1)) 5 (.slc true 1 (bytesV x.2))) 1 (.fn g [.ptr 0 a 0, .ptr 0 d 0])) 0 (.str s), b := n0, o := [o], r := #[ResultVar.tmp 4], f := 88, n := 39 }) (fun x => some (.str (repl (fun i => if (F (bt s i)).2 = true then (F (bt s i)).1 else one s i) s x.1 x.2), [o])) (fun x => s.size - x.1) ?_ (0, ⟨#[]⟩) (by decide)
  rintro ⟨i, out⟩ hi ih
  dsimp only at hi ⊢
  by_cases h : i < s.size
  · have h1 : (i : Int) < s.size := by omega
    have w := wrap_nat (n := i) (by omega)
    have f1 := hF (bt s i) n0 (bt_nonneg s i) (bt_lt s i)
    have b1 := hb (bt s i)
    have o1 := one_size s i h
    rw [repl_next h]
    simp only [go_sem, h1, ho, hu, f1]
    refine condL_bool (fun k => ?_) (fun k => ?_)
    · have a1 : (out.size + (F (bt s i)).1.size) * 1 ≤ 140737488355328 := by omega
      rw [if_pos k]
      simp only [go_sem, k, a1, ← bytesV_append, bytesV_len]
      refine condL_dec (fun z => ?_) (fun z => ?_)
      · have z' : (out ++ (F (bt s i)).1).size > 1048576 := by omega
        rw [if_pos z']
        simp only [go_sem]
      · have z' : ¬ (out ++ (F (bt s i)).1).size > 1048576 := by omega
        rw [if_neg z']
        simp only [go_sem, w]
        exact ih (i + 1, out ++ (F (bt s i)).1) (by show (out ++ (F (bt s i)).1).size ≤ 1048576; omega) (by show s.size - (i + 1) < s.size - i; omega)
    · have k' : ¬ (F (bt s i)).2 = true := by rw [k]; decide
      have a1 : (out.size + 1) * 1 ≤ 140737488355328 := by omega
      have e1 : bytesV out ++ [.int .u8 (bt s i)] = bytesV (out ++ one s i) := by rw [bytesV_append]; exact congrArg _ (bytesV_one s i h).symm
      rw [if_neg k']
      simp only [go_sem, k, h1, a1, e1, bytesV_len]
      refine condL_dec (fun z => ?_) (fun z => ?_)
      · have z' : (out ++ one s i).size > 1048576 := by omega
        rw [if_pos z']
        simp only [go_sem]
      · have z' : ¬ (out ++ one s i).size > 1048576 := by omega
        rw [if_neg z']
        simp only [go_sem, w]
        exact ih (i + 1, out ++ one s i) (by show (out ++ one s i).size ≤ 1048576; omega) (by show s.size - (i + 1) < s.size - i; omega)
  · have h1 : ¬ (i : Int) < s.size := by omega
    rw [repl_end h]
    simp only [go_sem, h1, u8_bytesV, ofInts_bytesV]
theorem r83 (s : ByteArray) (c : Int) (b : ByteArray) (hs : s.size ≤ 9223372036854775806) (hb : b.size ≤ 1048576) : run EE 83 [.str s, .int .u8 c, .str b] [] = some (.str (repV s c b), []) := by
  have key := r88 s 89 5 4 (fun x => (b, x == c)) (upd (upd n0 4 (some (Ob.box [.int .u8 c]))) 5 (some (Ob.box [.str b]))) hs (fun _ => hb) (fun _ => o89 _) rfl
    (fun x b' _ _ => r89 x c b b' _ rfl rfl)
  simp only [beq_iff_eq] at key
  rw [run_eq EE 83 _ _ Try.func83 (by decide +kernel) rfl (show 3 ≤ _ by decide)]
  dsimp only [Try.f83]
  simp only [go_sem, key]
  rfl
end Go.Ev
namespace Go.Ev
open Go Go.Proofs
set_option maxRecDepth 10000
set_option linter.unusedVariables false
set_option linter.unusedSimpArgs false

theorem r71 (e : Equ) (hl : e.left.size ≤ 1048576) (hr : e.right.size ≤ 1048576) : run EE 71 [e.enc] [] = some (.bool (clash (strip e)), []) := by
  have st := r38 e (by omega) (by omega)
  obtain ⟨q1, q2⟩ := strip_le e
  simp only [Equ.enc] at st
  generalize strip e = s at st q1 q2 ⊢
  have hd := r84 (s.left ++ s.right) (by rw [ByteArray.size_append]; omega)
  have v1 := r74 (bt s.left 0)
  have v2 := r74 (bt s.right 0)
  have a1 : ¬ ((s.left.size + s.right.size : Nat) : Int) > 9223372036854775807 := by omega
  rw [run_eq EE 71 _ _ Try.func71 (by decide +kernel) rfl (show 1 ≤ _ by decide)]
  dsimp only [Try.f71]
  unfold clash
  by_cases k1 : s.left.size = 0
  · rw [if_pos (Or.inl k1)]
    have a1' : ¬ ((s.right.size : Nat) : Int) > 9223372036854775807 := by omega
    simp only [go_sem, st, toList_nil, k1, a1', hd]
  by_cases k2 : s.right.size = 0
  · rw [if_pos (Or.inr k2)]
    have a1' : ¬ ((s.left.size : Nat) : Int) > 9223372036854775807 := by omega
    simp only [go_sem, st, toList_nil, k1, k2, a1', Nat.add_zero, hd]
  have p1 : (0 : Int) < s.left.size := by omega
  have p2 : (0 : Int) < s.right.size := by omega
  rw [if_neg (by omega)]
  simp only [go_sem, st, toList_nil, k1, k2, p1, p2, v1, v2]
  refine guardL_bool (fun c => ?_) (fun c => ?_)
  · simp only [go_sem, c, p1, p2, v2, Bool.true_and]
  · simp only [go_sem, c, p1, p2, v2, Bool.false_and]
theorem r82 (e : Equ) (hl : e.left.size ≤ 1048576) (hr : e.right.size ≤ 1048576) : run EE 82 [e.enc] [] = some (.bool (clash (strip e)), []) := by
  have st := r48 e (by omega) (by omega)
  obtain ⟨q1, q2⟩ := strip_le e
  simp only [Equ.enc] at st
  generalize strip e = s at st q1 q2 ⊢
  have hd := r87 (s.left ++ s.right) (by rw [ByteArray.size_append]; omega)
  have v1 := r81 (bt s.left 0) (bt_nonneg _ _) (bt_lt _ _)
  have v2 := r81 (bt s.right 0) (bt_nonneg _ _) (bt_lt _ _)
  have a1 : ¬ ((s.left.size + s.right.size : Nat) : Int) > 9223372036854775807 := by omega
  rw [run_eq EE 82 _ _ Try.func82 (by decide +kernel) rfl (show 1 ≤ _ by decide)]
  dsimp only [Try.f82]
  unfold clash
  by_cases k1 : s.left.size = 0
  · rw [if_pos (Or.inl k1)]
    have a1' : ¬ ((s.right.size : Nat) : Int) > 9223372036854775807 := by omega
    simp only [go_sem, st, toList_nil, k1, a1', hd]
  by_cases k2 : s.right.size = 0
  · rw [if_pos (Or.inr k2)]
    have a1' : ¬ ((s.left.size : Nat) : Int) > 9223372036854775807 := by omega
    simp only [go_sem, st, toList_nil, k1, k2, a1', Nat.add_zero, hd]
  have p1 : (0 : Int) < s.left.size := by omega
  have p2 : (0 : Int) < s.right.size := by omega
  rw [if_neg (by omega)]
  simp only [go_sem, st, toList_nil, k1, k2, p1, p2, v1, v2]
  refine guardL_bool (fun c => ?_) (fun c => ?_)
  · simp only [go_sem, c, p1, p2, v2, Bool.true_and]
  · simp only [go_sem, c, p1, p2, v2, Bool.false_and]
theorem r73 (e : Equ) (m : Mov) (hl : e.left.size ≤ 1048576) (hr : e.right.size ≤ 1048576) (hm : m.by_.size ≤ 1048576) : run EE 73 [e.enc, m.enc] [] = some ((strip ⟨repV e.left m.name m.by_, repV e.right m.name m.by_⟩).enc, []) := by
  have f1 := r85 e.left m.name m.by_ (by omega) hm
  have f2 := r85 e.right m.name m.by_ (by omega) hm
  have l1 := repV_le e.left m.name m.by_
  have l2 := repV_le e.right m.name m.by_
  have st := r38 ⟨repV e.left m.name m.by_, repV e.right m.name m.by_⟩ (by dsimp only; omega) (by dsimp only; omega)
  simp only [Equ.enc] at st
  rw [run_eq EE 73 _ _ Try.func73 (by decide +kernel) rfl (show 2 ≤ _ by decide)]
  dsimp only [Try.f73]
  simp only [go_sem]
  rw [q_drs]
  rotate_left
  · kernel_rfl
  simp only [go_sem, f1, f2, st]
theorem r61 (e : Equ) (m : Mov) (hl : e.left.size ≤ 1048576) (hr : e.right.size ≤ 1048576) (hm : m.by_.size ≤ 1048576) : run EE 61 [e.enc, m.enc] [] = some ((strip ⟨repV e.left m.name m.by_, repV e.right m.name m.by_⟩).enc, []) := by
  have f1 := r83 e.left m.name m.by_ (by omega) hm
  have f2 := r83 e.right m.name m.by_ (by omega) hm
  have l1 := repV_le e.left m.name m.by_
  have l2 := repV_le e.right m.name m.by_
  have st := r48 ⟨repV e.left m.name m.by_, repV e.right m.name m.by_⟩ (by dsimp only; omega) (by dsimp only; omega)
  simp only [Equ.enc] at st
  rw [run_eq EE 61 _ _ Try.func61 (by decide +kernel) rfl (show 2 ≤ _ by decide)]
  dsimp only [Try.f61]
  simp only [go_sem]
  rw [q_drs]
  rotate_left
  · kernel_rfl
  simp only [go_sem, f1, f2, st]
theorem r72 (a b : Int) : run EE 72 [.int .u8 a, .int .u8 b] [] = some (.slc true 2 ((first2 a b).map Mov.enc), []) := by
  have v1 := r74 a
  have v2 := r74 b
  have v3 := r75 b
  rw [run_eq EE 72 _ _ Try.func72 (by decide +kernel) rfl (show 2 ≤ _ by decide)]
  dsimp only [Try.f72]
  unfold first2
  by_cases k1 : isVar a = true
  rotate_left
  · have k1' : isVar a = false := by simpa using k1
    simp only [go_sem, v1, k1', Bool.not_false, Bool.false_eq_true, if_false]
  by_cases k2 : isVar b = true
  · simp only [go_sem, v1, v2, k1, k2, Bool.not_true, Bool.true_or, if_true, pair_bytes]
  have k2' : isVar b = false := by simpa using k2
  by_cases k3 : ltr b ≥ 0
  · have k3' : (0 : Int) ≤ ltr b := k3
    simp only [go_sem, v1, v2, v3, k1, k2', k3, k3', Bool.not_true, Bool.false_or, if_true, pair_bytes]
  · have k3' : ¬ (0 : Int) ≤ ltr b := k3
    simp only [go_sem, v1, v2, v3, k1, k2', k3, k3', Bool.not_true, Bool.or_false, if_true, if_false, Bool.false_eq_true]
end Go.Ev
namespace Go.Ev
open Go Go.Proofs
set_option maxRecDepth 10000
set_option linter.unusedVariables false
set_option linter.unusedSimpArgs false

theorem first2_le (a b : Int) : (first2 a b).length ≤ 2 := by
  unfold first2
  split
  · split <;> simp
  · simp
theorem r42 (e : Equ) (hl : e.left.size ≤ 1048576) (hr : e.right.size ≤ 1048576) : run EE 42 [e.enc] [] = some (.slc true 2 ((moves (strip e)).map Mov.enc), []) := by
  have st := r38 e (by omega) (by omega)
  obtain ⟨q1, q2⟩ := strip_le e
  have cl := r71 (strip e) (by omega) (by omega)
  rw [strip_strip] at cl
  simp only [Equ.enc] at st cl
  generalize strip e = s at st cl q1 q2 ⊢
  have f1 := r72 (bt s.left 0) (bt s.right 0)
  have f2 := r72 (bt s.right 0) (bt s.left 0)
  have b1 := first2_le (bt s.left 0) (bt s.right 0)
  have b2 := first2_le (bt s.right 0) (bt s.left 0)
  rw [run_eq EE 42 _ _ Try.func42 (by decide +kernel) rfl (show 1 ≤ _ by decide)]
  dsimp only [Try.f42]
  unfold moves
  by_cases k0 : s.left.size = 0 ∧ s.right.size = 0 ∨ clash s = true
  · rw [if_pos k0]
    by_cases k1 : s.left.size = 0
    · by_cases k2 : s.right.size = 0
      · simp only [go_sem, st, cl, toList_nil, k1, k2]
      · have kc : clash s = true := by rcases k0 with k0 | k0; exact absurd k0.2 k2; exact k0
        rw [kc] at cl
        simp only [go_sem, st, cl, toList_nil, k1, k2]
    · have kc : clash s = true := by rcases k0 with k0 | k0; exact absurd k0.1 k1; exact k0
      rw [kc] at cl
      simp only [go_sem, st, cl, toList_nil, k1]
  rw [if_neg k0]
  have kc : clash s = false := by
    cases h : clash s
    · rfl
    · exact absurd (.inr h) k0
  rw [kc] at cl
  by_cases k1 : s.left.size = 0
  · have k2 : ¬ s.right.size = 0 := fun h => k0 (.inl ⟨k1, h⟩)
    have p2 : (0 : Int) < s.right.size := by omega
    rw [if_pos k1]
    simp only [go_sem, st, cl, toList_nil, k1, k2, p2]
  have p1 : (0 : Int) < s.left.size := by omega
  rw [if_neg k1]
  by_cases k2 : s.right.size = 0
  · rw [if_pos k2]
    simp only [go_sem, st, cl, toList_nil, k1, k2, p1]
  have p2 : (0 : Int) < s.right.size := by omega
  rw [if_neg k2]
  simp only [go_sem, st, cl, toList_nil, k1, k2]
  rw [q_drs]
  rotate_left
  · kernel_rfl
  have a1 : ((first2 (bt s.left 0) (bt s.right 0)).length + (first2 (bt s.right 0) (bt s.left 0)).length) * 24 ≤ 140737488355328 := by omega
  simp only [go_sem, p1, p2, f1, f2, a1, List.map_append]
set_option maxHeartbeats 1000000 in
theorem r60 (e : Equ) (hl : e.left.size ≤ 1048576) (hr : e.right.size ≤ 1048576) : run EE 60 [e.enc] [] = some (.slc true 2 ((moves (strip e)).map Mov.enc), []) := by
  have st := r48 e (by omega) (by omega)
  obtain ⟨q1, q2⟩ := strip_le e
  have cl := r82 (strip e) (by omega) (by omega)
  rw [strip_strip] at cl
  simp only [Equ.enc] at st cl
  generalize strip e = s at st cl q1 q2 ⊢
  have v1 := r81 (bt s.left 0) (bt_nonneg _ _) (bt_lt _ _)
  have v2 := r81 (bt s.right 0) (bt_nonneg _ _) (bt_lt _ _)
  have t1 := r64 (bt s.left 0) (bt_nonneg _ _) (bt_lt _ _)
  have t2 := r64 (bt s.right 0) (bt_nonneg _ _) (bt_lt _ _)
  have a1 : ¬ ((s.left.size + s.right.size : Nat) : Int) > 9223372036854775807 := by omega
  have a2 : ¬ ((s.right.size : Nat) : Int) > 9223372036854775807 := by omega
  have a3 : ¬ ((s.left.size + 0 : Nat) : Int) > 9223372036854775807 := by omega
  have a4 : ¬ (0 : Int) > 9223372036854775807 := by decide
  rw [run_eq EE 60 _ _ Try.func60 (by decide +kernel) rfl (show 1 ≤ _ by decide)]
  dsimp only [Try.f60]
  unfold moves
  by_cases k0 : s.left.size = 0 ∧ s.right.size = 0 ∨ clash s = true
  · rw [if_pos k0]
    by_cases k1 : s.left.size = 0
    · by_cases k2 : s.right.size = 0
      · simp only [go_sem, st, cl, toList_nil, a1, a2, a3, a4, app_nil, k1, k2]
      · have kc : clash s = true := by rcases k0 with k0 | k0; exact absurd k0.2 k2; exact k0
        rw [kc] at cl
        simp only [go_sem, st, cl, toList_nil, a1, a2, a3, a4, app_nil, k1, k2]
    · have kc : clash s = true := by rcases k0 with k0 | k0; exact absurd k0.1 k1; exact k0
      rw [kc] at cl
      simp only [go_sem, st, cl, toList_nil, a1, a2, a3, a4, app_nil, k1, Bool.false_and]
  rw [if_neg k0]
  have kc : clash s = false := by
    cases h : clash s
    · rfl
    · exact absurd (.inr h) k0
  rw [kc] at cl
  by_cases k1 : s.left.size = 0
  · have k2 : ¬ s.right.size = 0 := fun h => k0 (.inl ⟨k1, h⟩)
    have p2 : (0 : Int) < s.right.size := by omega
    rw [if_pos k1]
    simp only [go_sem, st, cl, toList_nil, a1, a2, a3, a4, bt_app_right _ _ k1, k1, k2, p2]
  have p1 : (0 : Int) < s.left.size := by omega
  rw [if_neg k1]
  by_cases k2 : s.right.size = 0
  · rw [if_pos k2]
    have p3 : (0 : Int) < ((s.left ++ s.right).size : Nat) := by rw [ByteArray.size_append]; omega
    simp only [go_sem, st, cl, toList_nil, a1, a2, a3, a4, app_nil, k1, k2, p1, p3, bt_app_left _ _ (by omega : 0 < s.left.size), Bool.false_and]
  have p2 : (0 : Int) < s.right.size := by omega
  rw [if_neg k2]
  simp only [go_sem, st, cl, toList_nil, a1, a2, a3, a4, app_nil, k1, k2, Bool.false_and]
  rw [q_drs]
  rotate_left
  · kernel_rfl
  simp only [go_sem, p1, p2]
  generalize bt s.left 0 = L at v1 t1 ⊢
  generalize bt s.right 0 = R at v2 t2 ⊢
  unfold first2
  cases va : isVar L <;> cases vb : isVar R <;> rw [va] at v1 <;> rw [vb] at v2
  · simp only [go_sem, iter_eq, List.flatten_cons, List.flatten_nil, v1, v2, va, vb]
  · by_cases ca : 0 ≤ ltr L
    · simp only [go_sem, iter_eq, List.flatten_cons, List.flatten_nil, v1, v2, va, vb, t1, ca, pair_bytes, Bool.or_true, ge_iff_le]
    · simp only [go_sem, iter_eq, List.flatten_cons, List.flatten_nil, v1, v2, va, vb, t1, ca, pair_bytes, Bool.or_false, ge_iff_le]
  · by_cases ca : 0 ≤ ltr R
    · simp only [go_sem, iter_eq, List.flatten_cons, List.flatten_nil, v1, v2, va, vb, t2, ca, pair_bytes, Bool.or_true, ge_iff_le]
    · simp only [go_sem, iter_eq, List.flatten_cons, List.flatten_nil, v1, v2, va, vb, t2, ca, pair_bytes, Bool.or_false, ge_iff_le]
  · simp only [go_sem, iter_eq, List.flatten_cons, List.flatten_nil, v1, v2, va, vb, pair_bytes, Bool.true_or]
end Go.Ev
namespace Go.Ev
open Go Go.Proofs
set_option maxRecDepth 10000
set_option maxHeartbeats 1000000
set_option linter.unusedVariables false
set_option linter.unusedSimpArgs false

theorem r37 (f : Frm) (k : Nat) (hk : k < 3) (h3 : f.allowed.length = 3) (hl : f.equ.left.size ≤ 1048576) (hr : f.equ.right.size ≤ 1048576) :
    run EE 37 [f.enc, .int .i64 k] [] = some (.slc false 1 ((chs f k).map I), []) := by
  have a1 : ¬ ((f.equ.left.size + f.equ.right.size : Nat) : Int) > 9223372036854775807 := by omega
  have cb := r66 (f.equ.left ++ f.equ.right) (xyz k) (by rw [ByteArray.size_append]; omega)
  have hk' : k < f.allowed.length := by omega
  have k1 : (k : Int) < f.allowed.length := by omega
  have k3 : (k : Int) < ((⟨#[88, 89, 90]⟩ : ByteArray).size : Nat) := by show (k : Int) < 3; omega
  have hx : bt ⟨#[88, 89, 90]⟩ (k : Int) = xyz k := rfl
  have hch : chs f k = choice f.equ (xyz k) f.allowed[k] := by
    unfold chs
    rw [List.getD_eq_getElem?_getD, List.getElem?_eq_getElem hk']; rfl
  rw [hch]
  generalize xyz k = c at cb hx ⊢
  have hget : ∀ dd : V, (f.allowed.map IL).getD k dd = IL f.allowed[k] := fun dd => getD_map hk' dd
  generalize f.allowed[k] = l at hget ⊢
  have lm := r67 1 (l.length : Int)
  rw [min_len] at lm
  have h2 : ((min 1 l.length : Nat) : Int) ≤ l.length := by omega
  unfold choice
  rw [run_eq EE 37 _ _ Try.func37 (by decide +kernel) rfl (show 2 ≤ _ by decide)]
  dsimp only [Try.f37]
  simp only [go_sem]
  rw [q_drs]
  rotate_left
  · kernel_rfl
  simp only [go_sem, a1, k3, hx, cb]
  refine condL_bool (fun z => ?_) (fun z => ?_)
  · have z' : cntB c (f.equ.left ++ f.equ.right) 0 = 0 := by have := eq_of_beq z; omega
    rw [if_pos z']
    simp only [go_sem]
    rw [q_drs]
    rotate_left
    · kernel_rfl
    simp only [go_sem, k1, hget, lm, h2, min_take]
  · have z' : ¬ cntB c (f.equ.left ++ f.equ.right) 0 = 0 := by intro e; rw [e] at z; simp at z
    rw [if_neg z']
    simp only [go_sem, k1, hget]
end Go.Ev
namespace Go.Ev
open Go Go.Proofs
set_option maxRecDepth 10000
set_option maxHeartbeats 2000000
set_option linter.unusedVariables false
set_option linter.unusedSimpArgs false

theorem enc_snoc (out : List Sta) (s : Sta) : out.map Sta.enc ++ [V.agg [.str s.left, .str s.right, .slc false 1 (s.maps.map I)]] = (out ++ [s]).map Sta.enc := by simp [Sta.enc]
theorem r16 (f : Frm) (hl : f.equ.left.size ≤ 1048576) (hr : f.equ.right.size ≤ 1048576) (ha : f.allowed.length ≤ 1048576) (hb : ∀ l ∈ f.allowed, l.length ≤ 1048576) :
    run EE 16 [f.enc] [] = some (.slc true 3 ((starts f).map Sta.enc), []) := by
  have st := r38 f.equ (by omega) (by omega)
  rw [run_eq EE 16 _ _ Try.func16 (by decide +kernel) rfl (show 1 ≤ _ by decide)]
  dsimp only [Try.f16]
  unfold starts
  cases c3 : ((f.allowed.length : Int) == 3)
  · rw [if_neg (by intro e; rw [e] at c3; simp at c3)]
    simp only [go_sem, bne, c3, Bool.not_false, List.map_nil]
  have h3 : f.allowed.length = 3 := by have := eq_of_beq c3; omega
  rw [if_pos h3]
  have g0 := r37 f 0 (by omega) h3 hl hr
  have g1 := r37 f 1 (by omega) h3 hl hr
  have g2 := r37 f 2 (by omega) h3 hl hr
  have l0 := chs_le f 0 1048576 hb
  have l1 := chs_le f 1 1048576 hb
  have l2 := chs_le f 2 1048576 hb
  simp only [Frm.enc, Equ.enc] at g0 g1 g2 st
  have e0' : ((0 : Nat) : Int) = 0 := rfl
  have e1' : ((1 : Nat) : Int) = 1 := rfl
  have e2' : ((2 : Nat) : Int) = 2 := rfl
  rw [e0'] at g0
  rw [e1'] at g1
  rw [e2'] at g2
  generalize chs f 0 = x at g0 l0 ⊢
  generalize chs f 1 = y at g1 l1 ⊢
  generalize chs f 2 = z at g2 l2 ⊢
  generalize strip f.equ = e at st ⊢
  by_cases b0 : x.length > 1000
  · rw [starts_big (.inl b0)]
    have b0' : (x.length : Int) > 1000 := by omega
    simp only [go_sem, g0, g1, g2, st, bne, c3, b0', List.map_nil]
  have b0' : ¬ (x.length : Int) > 1000 := by omega
  by_cases b1 : y.length > 1000
  · rw [starts_big (.inr (.inl b1))]
    have b1' : (y.length : Int) > 1000 := by omega
    simp only [go_sem, g0, g1, g2, st, bne, c3, b0', b1', List.map_nil]
  have b1' : ¬ (y.length : Int) > 1000 := by omega
  by_cases b2 : z.length > 1000
  · rw [starts_big (.inr (.inr b2))]
    have b2' : (z.length : Int) > 1000 := by omega
    simp only [go_sem, g0, g1, g2, st, bne, c3, b0', b1', b2', List.map_nil]
  have b2' : ¬ (z.length : Int) > 1000 := by omega
  have m1 : x.length * y.length ≤ 1000 * 1000 := Nat.mul_le_mul (by omega) (by omega)
  have m2 : x.length * y.length * z.length ≤ 1000 * 1000 * 1000 := Nat.mul_le_mul m1 (by omega)
  have w1 : IntKind.i64.wrap ((x.length : Int) * y.length) = ((x.length * y.length : Nat) : Int) := by
    rw [← Int.natCast_mul]; exact wrap_in (by omega) (by omega)
  have w2 : IntKind.i64.wrap (((x.length * y.length : Nat) : Int) * z.length) = ((x.length * y.length * z.length : Nat) : Int) := by
    rw [← Int.natCast_mul]; exact wrap_in (by omega) (by omega)
  by_cases b3 : x.length * y.length * z.length > 400
  · have b3' : ((x.length * y.length * z.length : Nat) : Int) > 400 := by omega
    unfold startsOf
    rw [if_pos b3]
    simp only [go_sem, g0, g1, g2, st, bne, c3, b0', b1', b2', w1, w2, b3', List.map_nil]
  have b3' : ¬ ((x.length * y.length * z.length : Nat) : Int) > 400 := by omega
  unfold startsOf
  rw [if_neg b3]
  simp only [go_sem, g0, g1, g2, st, bne, c3, b0', b1', b2', w1, w2, b3']
  have hA := staX_len e y z x
  generalize hAA : staX e x y z = A at hA ⊢
  let bx := Ob.box [V.str f.equ.left, .str f.equ.right, .slc false 1 (f.mon.maps.map IL), .slc false 1 (f.mon.letters.map I), .slc false 1 (f.mon.product.map IL), .slc false 1 (f.allowed.map IL)]
  let be := Ob.box [V.str e.left, .str e.right]
  refine iter_inv (fun p : Nat × List Sta => p.1 ≤ x.length ∧ p.2 ++ staX e (x.drop p.1) y z = A) (fun p => { t := upd (upd (upd (upd (upd (upd e0 8 (.int .i64 p.1)) 7 (.ptr 0 7 0)) 6 (.slc false 1 (z.map I))) 5 (.slc false 1 (y.map I))) 4 (.slc false 1 (x.map I))) 3 (.slc true 3 (p.2.map Sta.enc)), b := upd (upd n0 7 (some (Ob.box [V.str e.left, .str e.right]))) 1 (some (Ob.box [V.str f.equ.left, .str f.equ.right, .slc false 1 (f.mon.maps.map IL), .slc false 1 (f.mon.letters.map I), .slc false 1 (f.mon.product.map IL), .slc false 1 (f.allowed.map IL)])), o := [], r := #[ResultVar.tmp 2], f := 16, n := 91 }) (fun p => some (.slc true 3 (A.map Sta.enc), [])) (fun p => x.length - p.1) ?_ (0, []) ⟨Nat.zero_le _, by rw [← hAA]; rfl⟩
  rintro ⟨i, out⟩ ⟨hi, hI⟩ ih
  dsimp only at hi hI ⊢
  by_cases h : i < x.length
  rotate_left
  · have k1 : ¬ (i : Int) < x.length := by omega
    rw [List.drop_eq_nil_of_le (by omega)] at hI
    have : out = A := by simpa [staX] using hI
    simp only [go_sem, k1, this]
  have k1 : (i : Int) < x.length := by omega
  have wi := wrap_nat (n := i) (by omega)
  rw [List.drop_eq_getElem_cons h, staX_cons] at hI
  have hget : ∀ dd : V, (x.map I).getD i dd = I x[i] := fun dd => getD_map h dd
  generalize x[i] = xa at hget hI
  simp only [go_sem, k1]
  refine iter_inv (fun p : Nat × List Sta => p.1 ≤ y.length ∧ p.2 ++ (staY e xa (y.drop p.1) z ++ staX e (x.drop (i + 1)) y z) = A) (fun p => { t := upd (upd (upd (upd (upd (upd (upd e0 9 (.int .i64 p.1)) 8 (.int .i64 i)) 7 (.ptr 0 7 0)) 6 (.slc false 1 (z.map I))) 5 (.slc false 1 (y.map I))) 4 (.slc false 1 (x.map I))) 3 (.slc true 3 (p.2.map Sta.enc)), b := upd (upd n0 7 (some (Ob.box [V.str e.left, .str e.right]))) 1 (some (Ob.box [V.str f.equ.left, .str f.equ.right, .slc false 1 (f.mon.maps.map IL), .slc false 1 (f.mon.letters.map I), .slc false 1 (f.mon.product.map IL), .slc false 1 (f.allowed.map IL)])), o := [], r := #[ResultVar.tmp 2], f := 16, n := 91 }) (fun p => some (.slc true 3 (A.map Sta.enc), [])) (fun p => y.length - p.1) ?_ (0, out) ⟨Nat.zero_le _, hI⟩
  rintro ⟨j, out⟩ ⟨hj, hJ⟩ ihj
  dsimp only at hj hJ ⊢
  by_cases h' : j < y.length
  rotate_left
  · have k2 : ¬ (j : Int) < y.length := by omega
    rw [List.drop_eq_nil_of_le (by omega)] at hJ
    have hJ' : out ++ staX e (x.drop (i + 1)) y z = A := by simpa [staY] using hJ
    simp only [go_sem, k2, wi]
    exact ih (i + 1, out) ⟨h, hJ'⟩ (by show x.length - (i + 1) < x.length - i; omega)
  have k2 : (j : Int) < y.length := by omega
  have wj := wrap_nat (n := j) (by omega)
  rw [List.drop_eq_getElem_cons h', staY_cons, List.append_assoc] at hJ
  have hget' : ∀ dd : V, (y.map I).getD j dd = I y[j] := fun dd => getD_map h' dd
  generalize y[j] = yb at hget' hJ
  simp only [go_sem, k2]
  refine iter_inv (fun p : Nat × List Sta => p.1 ≤ z.length ∧ p.2 ++ (staR e xa yb (z.drop p.1) ++ (staY e xa (y.drop (j + 1)) z ++ staX e (x.drop (i + 1)) y z)) = A) (fun p => { t := upd (upd (upd (upd (upd (upd (upd (upd e0 10 (.int .i64 p.1)) 9 (.int .i64 j)) 8 (.int .i64 i)) 7 (.ptr 0 7 0)) 6 (.slc false 1 (z.map I))) 5 (.slc false 1 (y.map I))) 4 (.slc false 1 (x.map I))) 3 (.slc true 3 (p.2.map Sta.enc)), b := upd (upd n0 7 (some (Ob.box [V.str e.left, .str e.right]))) 1 (some (Ob.box [V.str f.equ.left, .str f.equ.right, .slc false 1 (f.mon.maps.map IL), .slc false 1 (f.mon.letters.map I), .slc false 1 (f.mon.product.map IL), .slc false 1 (f.allowed.map IL)])), o := [], r := #[ResultVar.tmp 2], f := 16, n := 91 }) (fun p => some (.slc true 3 (A.map Sta.enc), [])) (fun p => z.length - p.1) ?_ (0, out) ⟨Nat.zero_le _, hJ⟩
  rintro ⟨k, out⟩ ⟨hk, hK⟩ ihk
  dsimp only at hk hK ⊢
  by_cases h'' : k < z.length
  rotate_left
  · have k3 : ¬ (k : Int) < z.length := by omega
    rw [List.drop_eq_nil_of_le (by omega)] at hK
    have hK' : out ++ (staY e xa (y.drop (j + 1)) z ++ staX e (x.drop (i + 1)) y z) = A := by simpa [staR] using hK
    simp only [go_sem, k3, wj]
    exact ihj (j + 1, out) ⟨h', hK'⟩ (by show y.length - (j + 1) < y.length - j; omega)
  have k3 : (k : Int) < z.length := by omega
  have wk := wrap_nat (n := k) (by omega)
  rw [List.drop_eq_getElem_cons h'', staR_cons] at hK
  have hget'' : ∀ dd : V, (z.map I).getD k dd = I z[k] := fun dd => getD_map h'' dd
  generalize z[k] = zc at hget'' hK
  have hlen : out.length + 1 ≤ A.length := by rw [← hK]; simp
  have a1 : (out.length + 1) * 56 ≤ 140737488355328 := by omega
  simp only [go_sem, k3]
  rw [q_drs]
  rotate_left
  · kernel_rfl
  simp only [go_sem, k1, k2, k3, hget, hget', hget'', wk, a1]
  have es := enc_snoc out ⟨e.left, e.right, [xa, yb, zc]⟩
  simp only [List.map_cons, List.map_nil, I] at es
  rw [es]
  exact ihk (k + 1, out ++ [⟨e.left, e.right, [xa, yb, zc]⟩]) ⟨h'', by rw [← hK]; simp⟩ (by show z.length - (k + 1) < z.length - k; omega)
end Go.Ev
namespace Go.Ev
open Go Go.Proofs
set_option maxRecDepth 10000
set_option maxHeartbeats 2000000
set_option linter.unusedVariables false
set_option linter.unusedSimpArgs false

theorem r26 (f : Frm) (hl : f.equ.left.size ≤ 1048576) (hr : f.equ.right.size ≤ 1048576) (ha : f.allowed.length ≤ 1048576) (hb : ∀ l ∈ f.allowed, l.length ≤ 1048576) :
    run EE 26 [f.enc] [] = some (.slc true 3 ((starts f).map Sta.enc), []) := by
  have st := r48 f.equ (by omega) (by omega)
  rw [run_eq EE 26 _ _ Try.func26 (by decide +kernel) rfl (show 1 ≤ _ by decide)]
  dsimp only [Try.f26]
  unfold starts
  cases c3 : ((f.allowed.length : Int) == 3)
  · rw [if_neg (by intro e; rw [e] at c3; simp at c3)]
    simp only [go_sem, bne, c3, Bool.not_false, List.map_nil]
  have h3 : f.allowed.length = 3 := by have := eq_of_beq c3; omega
  rw [if_pos h3]
  simp only [Frm.enc, Equ.enc] at st
  simp only [go_sem, bne, c3, Bool.not_true]
  refine iter_inv (fun i : Nat => i ≤ 3) (fun i => { t := upd (upd (upd (upd (upd (upd e0 23 (.int .i64 i)) 22 (.int .i64 f.allowed.length)) 21 (.slc false 1 (f.allowed.map IL))) 4 (.int .i64 (cntK f i))) 3 (.slc true 1 (((List.range i).map (chs f)).map IL))) 1 (.ptr 0 1 0), b := upd n0 1 (some (Ob.box [V.str f.equ.left, .str f.equ.right, .slc false 1 (f.mon.maps.map IL), .slc false 1 (f.mon.letters.map I), .slc false 1 (f.mon.product.map IL), .slc false 1 (f.allowed.map IL)])), o := [], r := #[ResultVar.tmp 2], f := 26, n := 100 }) (fun i => some (.slc true 3 ((startsOf (strip f.equ) (chs f 0) (chs f 1) (chs f 2)).map Sta.enc), [])) (fun i => 3 - i) ?_ 0 (Nat.zero_le _)
  intro i hi ih
  by_cases h : i < 3
  · have k1 : (i : Int) < f.allowed.length := by omega
    have a1 : ¬ ((f.equ.left.size + f.equ.right.size : Nat) : Int) > 9223372036854775807 := by omega
    have k3 : (i : Int) < ((⟨#[88, 89, 90]⟩ : ByteArray).size : Nat) := by show (i : Int) < 3; omega
    have hx : bt ⟨#[88, 89, 90]⟩ (i : Int) = xyz i := rfl
    have hk' : i < f.allowed.length := by omega
    have wi := wrap_nat (n := i) (by omega)
    have hch : chs f i = choice f.equ (xyz i) f.allowed[i] := by
      unfold chs
      rw [List.getD_eq_getElem?_getD, List.getElem?_eq_getElem hk']; rfl
    have hget : ∀ dd : V, (f.allowed.map IL).getD i dd = IL f.allowed[i] := fun dd => getD_map hk' dd
    have b0 := bt_nonneg ⟨#[88, 89, 90]⟩ (i : Int)
    have b1 := bt_lt ⟨#[88, 89, 90]⟩ (i : Int)
    rw [hx] at b0 b1
    have kl := cntK_le f i
    have kl2 : (401 : Nat) ^ i ≤ 401 ^ 3 := Nat.pow_le_pow_right (by decide) (by omega)
    have kl3 : cntK f (i + 1) ≤ 401 ^ 4 := Nat.le_trans (cntK_le f (i + 1)) (Nat.pow_le_pow_right (by decide) (by omega))
    have wk : IntKind.i64.wrap ((cntK f i : Int) * ((min (chs f i).length 401 : Nat) : Int)) = ((cntK f (i + 1) : Nat) : Int) := by
      rw [← Int.natCast_mul]
      exact wrap_in (by omega) (by show ((cntK f (i + 1) : Nat) : Int) ≤ _; omega)
    have ihn := ih (i + 1) (by omega) (by omega)
    rw [List.range_succ] at ihn
    have hs := snoc_range (chs f) IL i
    have a2 : ((List.range i).length + 1) * 24 ≤ 140737488355328 := by simp; omega
    simp only [go_sem, k1, hget]
    rw [q_drs]
    rotate_left
    · kernel_rfl
    simp only [go_sem, a1, k3, hx]
    refine condL_dec (fun z => ?_) (fun z => ?_)
    · rw [idx_cnt _ _ b0 b1] at z
      have hc : chs f i = f.allowed[i].take 1 := by rw [hch]; unfold choice; rw [if_pos z]
      rw [hc] at hs wk
      have h2 : ((min 1 f.allowed[i].length : Nat) : Int) ≤ f.allowed[i].length := by omega
      have m4 := min_401 (f.allowed[i].take 1).length
      simp only [IL] at hs
      rw [List.length_take] at wk m4
      simp only [go_sem, min_len2, h2, min_take, a2, hs, m4, wk, wi]
      exact ihn
    · rw [idx_cnt _ _ b0 b1] at z
      have hc : chs f i = f.allowed[i] := by rw [hch]; unfold choice; rw [if_neg z]
      rw [hc] at hs wk
      have m4 := min_401 (f.allowed[i]).length
      simp only [IL] at hs
      simp only [go_sem, a2, hs, m4, wk, wi]
      exact ihn
  obtain rfl : i = 3 := by omega
  clear ih
  have k1 : ¬ (3 : Int) < f.allowed.length := by omega
  have hr3 : ((List.range 3).map (chs f)).map IL = [IL (chs f 0), IL (chs f 1), IL (chs f 2)] := rfl
  rw [hr3]
  clear hr3
  have l0 := chs_le f 0 1048576 hb
  have l1 := chs_le f 1 1048576 hb
  have l2 := chs_le f 2 1048576 hb
  have pm := prod_min (chs f 0).length (chs f 1).length (chs f 2).length
  rw [← cntK_3] at pm
  generalize cntK f 3 = K at pm ⊢
  generalize chs f 0 = x at l0 pm ⊢
  generalize chs f 1 = y at l1 pm ⊢
  generalize chs f 2 = z at l2 pm ⊢
  generalize strip f.equ = e at st ⊢
  unfold startsOf
  by_cases b3 : x.length * y.length * z.length > 400
  · have b3' : (K : Int) > 400 := by have := pm.2 b3; omega
    rw [if_pos b3]
    simp only [go_sem, k1, b3', List.map_nil]
  have b3' : ¬ (K : Int) > 400 := by
    intro h
    exact b3 (pm.1 (by omega))
  rw [if_neg b3]
  simp only [go_sem, k1, b3', st]
  have hA := staX_len e y z x
  generalize hAA : staX e x y z = A at hA ⊢
  refine iter_inv (fun p : Nat × List Sta => p.1 ≤ x.length ∧ p.2 ++ staX e (x.drop p.1) y z = A) (fun p => { t := upd (upd (upd (upd (upd (upd e0 64 (.int .i64 p.1)) 63 (.int .i64 x.length)) 62 (.slc false 1 (x.map I))) 8 (.slc true 3 (p.2.map Sta.enc))) 7 (.ptr 0 7 0)) 3 (.slc true 1 [.slc false 1 (x.map I), .slc false 1 (y.map I), .slc false 1 (z.map I)]), b := upd (upd n0 7 (some (Ob.box [V.str e.left, .str e.right]))) 1 (some (Ob.box [V.str f.equ.left, .str f.equ.right, .slc false 1 (f.mon.maps.map IL), .slc false 1 (f.mon.letters.map I), .slc false 1 (f.mon.product.map IL), .slc false 1 (f.allowed.map IL)])), o := [], r := #[ResultVar.tmp 2], f := 26, n := 100 }) (fun p => some (.slc true 3 (A.map Sta.enc), [])) (fun p => x.length - p.1) ?_ (0, []) ⟨Nat.zero_le _, by rw [← hAA]; rfl⟩
  rintro ⟨i, out⟩ ⟨hi, hI⟩ ih
  dsimp only at hi hI ⊢
  by_cases h : i < x.length
  rotate_left
  · have k1 : ¬ (i : Int) < x.length := by omega
    rw [List.drop_eq_nil_of_le (by omega)] at hI
    have : out = A := by simpa [staX] using hI
    simp only [go_sem, k1, this]
  have k1 : (i : Int) < x.length := by omega
  have wi := wrap_nat (n := i) (by omega)
  rw [List.drop_eq_getElem_cons h, staX_cons] at hI
  have hget : ∀ dd : V, (x.map I).getD i dd = I x[i] := fun dd => getD_map h dd
  generalize x[i] = xa at hget hI
  simp only [go_sem, k1, hget]
  refine iter_inv (fun p : Nat × List Sta => p.1 ≤ y.length ∧ p.2 ++ (staY e xa (y.drop p.1) z ++ staX e (x.drop (i + 1)) y z) = A) (fun p => { t := upd (upd (upd (upd (upd (upd (upd (upd (upd (upd e0 72 (.int .i64 p.1)) 71 (.int .i64 y.length)) 70 (.slc false 1 (y.map I))) 64 (.int .i64 i)) 63 (.int .i64 x.length)) 62 (.slc false 1 (x.map I))) 10 (.int .i64 xa)) 8 (.slc true 3 (p.2.map Sta.enc))) 7 (.ptr 0 7 0)) 3 (.slc true 1 [.slc false 1 (x.map I), .slc false 1 (y.map I), .slc false 1 (z.map I)]), b := upd (upd n0 7 (some (Ob.box [V.str e.left, .str e.right]))) 1 (some (Ob.box [V.str f.equ.left, .str f.equ.right, .slc false 1 (f.mon.maps.map IL), .slc false 1 (f.mon.letters.map I), .slc false 1 (f.mon.product.map IL), .slc false 1 (f.allowed.map IL)])), o := [], r := #[ResultVar.tmp 2], f := 26, n := 100 }) (fun p => some (.slc true 3 (A.map Sta.enc), [])) (fun p => y.length - p.1) ?_ (0, out) ⟨Nat.zero_le _, hI⟩
  rintro ⟨j, out⟩ ⟨hj, hJ⟩ ihj
  dsimp only at hj hJ ⊢
  by_cases h' : j < y.length
  rotate_left
  · have k2 : ¬ (j : Int) < y.length := by omega
    rw [List.drop_eq_nil_of_le (by omega)] at hJ
    have hJ' : out ++ staX e (x.drop (i + 1)) y z = A := by simpa [staY] using hJ
    simp only [go_sem, k2, wi]
    exact ih (i + 1, out) ⟨h, hJ'⟩ (by show x.length - (i + 1) < x.length - i; omega)
  have k2 : (j : Int) < y.length := by omega
  have wj := wrap_nat (n := j) (by omega)
  rw [List.drop_eq_getElem_cons h', staY_cons, List.append_assoc] at hJ
  have hget' : ∀ dd : V, (y.map I).getD j dd = I y[j] := fun dd => getD_map h' dd
  generalize y[j] = yb at hget' hJ
  simp only [go_sem, k2, hget']
  refine iter_inv (fun p : Nat × List Sta => p.1 ≤ z.length ∧ p.2 ++ (staR e xa yb (z.drop p.1) ++ (staY e xa (y.drop (j + 1)) z ++ staX e (x.drop (i + 1)) y z)) = A) (fun p => { t := upd (upd (upd (upd (upd (upd (upd (upd (upd (upd (upd (upd (upd (upd e0 80 (.int .i64 p.1)) 79 (.int .i64 z.length)) 78 (.slc false 1 (z.map I))) 72 (.int .i64 j)) 71 (.int .i64 y.length)) 70 (.slc false 1 (y.map I))) 64 (.int .i64 i)) 63 (.int .i64 x.length)) 62 (.slc false 1 (x.map I))) 12 (.int .i64 yb)) 10 (.int .i64 xa)) 8 (.slc true 3 (p.2.map Sta.enc))) 7 (.ptr 0 7 0)) 3 (.slc true 1 [.slc false 1 (x.map I), .slc false 1 (y.map I), .slc false 1 (z.map I)]), b := upd (upd n0 7 (some (Ob.box [V.str e.left, .str e.right]))) 1 (some (Ob.box [V.str f.equ.left, .str f.equ.right, .slc false 1 (f.mon.maps.map IL), .slc false 1 (f.mon.letters.map I), .slc false 1 (f.mon.product.map IL), .slc false 1 (f.allowed.map IL)])), o := [], r := #[ResultVar.tmp 2], f := 26, n := 100 }) (fun p => some (.slc true 3 (A.map Sta.enc), [])) (fun p => z.length - p.1) ?_ (0, out) ⟨Nat.zero_le _, hJ⟩
  rintro ⟨k, out⟩ ⟨hk, hK⟩ ihk
  dsimp only at hk hK ⊢
  by_cases h'' : k < z.length
  rotate_left
  · have k3 : ¬ (k : Int) < z.length := by omega
    rw [List.drop_eq_nil_of_le (by omega)] at hK
    have hK' : out ++ (staY e xa (y.drop (j + 1)) z ++ staX e (x.drop (i + 1)) y z) = A := by simpa [staR] using hK
    simp only [go_sem, k3, wj]
    exact ihj (j + 1, out) ⟨h', hK'⟩ (by show y.length - (j + 1) < y.length - j; omega)
  have k3 : (k : Int) < z.length := by omega
  have wk := wrap_nat (n := k) (by omega)
  rw [List.drop_eq_getElem_cons h'', staR_cons] at hK
  have hget'' : ∀ dd : V, (z.map I).getD k dd = I z[k] := fun dd => getD_map h'' dd
  generalize z[k] = zc at hget'' hK
  have hlen : out.length + 1 ≤ A.length := by rw [← hK]; simp
  have a1 : (out.length + 1) * 56 ≤ 140737488355328 := by omega
  have es := enc_snoc out ⟨e.left, e.right, [xa, yb, zc]⟩
  simp only [List.map_cons, List.map_nil, I] at es
  simp only [go_sem, k3, hget'', wk, a1, es]
  exact ihk (k + 1, out ++ [⟨e.left, e.right, [xa, yb, zc]⟩]) ⟨h'', by rw [← hK]; simp⟩ (by show z.length - (k + 1) < z.length - k; omega)
end Go.Ev
namespace Go.Ev
open Go Go.Proofs
set_option maxRecDepth 10000
set_option maxHeartbeats 2000000
set_option linter.unusedVariables false
set_option linter.unusedSimpArgs false

theorem side_one (s : ByteArray) (i : Nat) (h : i < s.size) : (allB sideB (one s i) 0 && decide (((one s i).size : Int) ≤ 24)) = sideB (bt s i) := by
  have h1 := one_size s i h
  rw [allB_next sideB _ (by omega), allB_end sideB _ (by omega), h1]
  have : bt (one s i) ((0 : Nat) : Int) = bt s i := by
    unfold bt
    rw [dif_pos (by rw [h1]; decide), dif_pos (by simpa using h)]
    congr 2
    unfold one
    rw [ByteArray.getElem_extract]
    simp
  rw [this, Bool.and_true]
  simp
theorem r41 (f : Frm) (s : Sta) (h1 : f.mon.maps.length ≤ 1048576) (h2 : f.mon.letters.length ≤ 1048576) (h3 : f.mon.product.length ≤ 1048576) (h4 : ∀ r ∈ f.mon.product, r.length ≤ 1048576) (hm : s.maps.length ≤ 1048576) (hl : s.left.size ≤ 1048576) (hr : s.right.size ≤ 1048576) :
    run EE 41 [f.enc, s.enc] [] = some (.bool (goodS f s), []) := by
  have g := r17 f.mon h1 h2 h3 h4
  have gn := r39 s.maps hm f.mon.maps.length h1
  simp only [Mon.enc] at g
  have a1 : ¬ ((s.left.size + s.right.size : Nat) : Int) > 9223372036854775807 := by omega
  rw [run_eq EE 41 _ _ Try.func41 (by decide +kernel) rfl (show 2 ≤ _ by decide)]
  dsimp only [Try.f41]
  unfold goodS
  rw [← side_app]
  cases k1 : goodM f.mon
  · rw [k1] at g
    simp only [go_sem, g, Bool.not_false, Bool.false_and]
  rw [k1] at g
  cases k2 : ((s.maps.length : Int) == 3)
  · simp only [go_sem, g, bne, k2, Bool.not_false, Bool.not_true, Bool.true_and, Bool.false_and]
  cases k3 : nums f.mon.maps.length s.maps
  · rw [k3] at gn
    simp only [go_sem, g, gn, bne, k2, Bool.not_false, Bool.not_true, Bool.true_and, Bool.false_and]
  rw [k3] at gn
  simp only [go_sem, g, gn, bne, k2, Bool.not_true, Bool.true_and, a1]
  have hz : (s.left ++ s.right).size ≤ 2097152 := by rw [ByteArray.size_append]; omega
  generalize s.left ++ s.right = all at hz ⊢
  refine iter_inv (fun i : Nat => i ≤ all.size) (fun i => { t := upd (upd e0 6 (.int .i64 i)) 5 (.str all), b := upd (upd n0 3 (some (Ob.box [.str s.left, .str s.right, .slc false 1 (s.maps.map I)]))) 2 (some (Ob.box [.str f.equ.left, .str f.equ.right, .slc false 1 (f.mon.maps.map IL), .slc false 1 (f.mon.letters.map I), .slc false 1 (f.mon.product.map IL), .slc false 1 (f.allowed.map IL)])), o := [], r := #[ResultVar.tmp 4], f := 41, n := 45 }) (fun i => some (.bool (allB sideB all i), [])) (fun i => all.size - i) ?_ 0 (Nat.zero_le _)
  intro i hi ih
  by_cases h : i < all.size
  · have k1 : (i : Int) < all.size := by omega
    have w := wrap_nat (n := i) (by omega)
    have eo : all.extract i (i + 1) = one all i := rfl
    have b1 : (0 : Int) ≤ i := by omega
    have b2 : (i : Int) ≤ ((i + 1 : Nat) : Int) := by omega
    have b3 : ((i + 1 : Nat) : Int) ≤ all.size := by omega
    have sd := r70 (one all i) (by rw [one_size _ _ h]; decide)
    rw [side_one all i h] at sd
    rw [allB_next sideB all h]
    cases c : sideB (bt all i)
    · rw [c] at sd
      simp only [go_sem, k1, w, b1, b2, b3, eo, sd, Bool.not_false, Bool.false_and]
    · rw [c] at sd
      simp only [go_sem, k1, w, b1, b2, b3, eo, sd, Bool.not_true, Bool.true_and]
      exact ih (i + 1) (by omega) (by omega)
  · have k1 : ¬ (i : Int) < all.size := by omega
    rw [allB_end sideB all h]
    simp only [go_sem, k1]
theorem r45 (f : Frm) (s : Sta) (c : Int) (h : GoodF f s) (c0 : 0 ≤ c) (c1 : c < 256) (hc : isVar c = true ∨ 0 ≤ ltr c) :
    run EE 45 [f.enc, s.enc, .int .u8 c] [] = some (.int .i64 (byteMap f s c), []) := by
  have v := r74 c
  have li := r75 c
  have ix := r43 c c0 c1
  have hm := h.maps
  have hl := h.lets
  rw [run_eq EE 45 _ _ Try.func45 (by decide +kernel) rfl (show 3 ≤ _ by decide)]
  dsimp only [Try.f45]
  unfold byteMap
  cases k : isVar c
  · have p0 : 0 ≤ ltr c := hc.resolve_left (by rw [k]; decide)
    have p1 := ltr_lt c
    have p2 : ltr c < (f.mon.letters.length : Int) := by omega
    have gi := fun dd => get_I (l := f.mon.letters) (i := (ltr c).toNat) (by omega) dd
    rw [k] at v
    simp only [go_sem, v]
    rw [q_drs]
    rotate_left
    · kernel_rfl
    simp only [go_sem, li, p0, p2, gi]
  · have p := isVar_iff k
    have p0 : 0 ≤ c - 88 := by omega
    have p2 : c - 88 < (s.maps.length : Int) := by omega
    have gi := fun dd => get_I (l := s.maps) (i := (c - 88).toNat) (by omega) dd
    rw [k] at v
    simp only [go_sem, v]
    rw [q_drs]
    rotate_left
    · kernel_rfl
    simp only [go_sem, ix, p0, p2, gi, vIx]
theorem three {l : List Int} (h : l.length = 3) : ∃ a b c, l = [a, b, c] := by
  match l, h with
  | [a, b, c], _ => exact ⟨a, b, c, rfl⟩
theorem r44 (s : Sta) (m : Mov) (k : Int) (hg : GoodMove m) (hm : s.maps.length = 3) (hl : s.left.size ≤ 1048576) (hr : s.right.size ≤ 1048576) :
    run EE 44 [s.enc, m.enc, .int .i64 k] [] = some ((movedS s m k).enc, []) := by
  have hb := hg.size
  have am := r73 ⟨s.left, s.right⟩ m hl hr (by omega)
  have em : strip ⟨repV s.left m.name m.by_, repV s.right m.name m.by_⟩ = movedE s m := rfl
  dsimp only at am
  rw [em] at am
  have hd : movedS s m k = ⟨(movedE s m).left, (movedE s m).right, s.maps.set (vIx m.name) k⟩ := rfl
  rw [hd]
  generalize movedE s m = e at am ⊢
  simp only [Equ.enc, Mov.enc] at am
  have hv := isVar_iff hg.var
  have ix := r43 m.name (by omega) (by omega)
  obtain ⟨sl, sr, maps⟩ := s
  dsimp only at *
  obtain ⟨a, b, c, rfl⟩ := three hm
  have p0 : 0 ≤ m.name - 88 := by omega
  have p2 : m.name - 88 < 3 := by omega
  have p3 : (m.name - 88).toNat < 3 := by omega
  have hs := map_set_I [a, b, c] (m.name - 88).toNat k
  simp only [List.map_cons, List.map_nil, I] at hs
  have hln : (([a, b, c] : List Int).set (m.name - 88).toNat k).length = 3 := by simp
  rw [run_eq EE 44 _ _ Try.func44 (by decide +kernel) rfl (show 3 ≤ _ by decide)]
  dsimp only [Try.f44]
  simp only [go_sem, am]
  rw [q_drawn]
  rotate_left
  · kernel_rfl
  simp only [go_sem, still, eq_self]
  rw [q_drs]
  rotate_left
  · kernel_rfl
  simp only [go_sem, ix, p0, p2, p3, hs, hln, vIx]
end Go.Ev
