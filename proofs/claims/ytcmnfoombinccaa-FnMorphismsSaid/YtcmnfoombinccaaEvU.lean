/- Facts on the seat's types, printed by a program. What the evaluator is told of the functions, printed by a program. -/
import Derived.Test.YtcmnfoombinccaaProg
import Derived.Test.YtcmnfoombinccaaEvO
set_option linter.unusedVariables false
set_option linter.unusedSimpArgs false
namespace Go.Ev
open Go Go.Proofs
set_option maxRecDepth 10000
theorem sz1 : szOf Try.prog 1 = 1 := by kernel_rfl
theorem ag1 : isAgg Try.prog 1 = false := by kernel_rfl
theorem ze1 : zero Try.prog 1 = some [V.nilfn] := by kernel_rfl
theorem u2 : Try.prog.underlying 2 = some (.int .i64) := by kernel_rfl
theorem sz2 : szOf Try.prog 2 = 1 := by kernel_rfl
theorem ag2 : isAgg Try.prog 2 = false := by kernel_rfl
theorem ze2 : zero Try.prog 2 = some [V.int .i64 0] := by kernel_rfl
theorem u3 : Try.prog.underlying 3 = some (.int .i64) := by kernel_rfl
theorem sz3 : szOf Try.prog 3 = 1 := by kernel_rfl
theorem ag3 : isAgg Try.prog 3 = false := by kernel_rfl
theorem ze3 : zero Try.prog 3 = some [V.int .i64 0] := by kernel_rfl
theorem u4 : Try.prog.underlying 4 = some .bool := by kernel_rfl
theorem sz4 : szOf Try.prog 4 = 1 := by kernel_rfl
theorem ag4 : isAgg Try.prog 4 = false := by kernel_rfl
theorem ze4 : zero Try.prog 4 = some [V.bool false] := by kernel_rfl
theorem ev4 (x y : Bool) : eqV Try.prog 4 (.bool x) (.bool y) = some (x == y) := by kernel_rfl
theorem u5 : Try.prog.underlying 5 = some (.int .u8) := by kernel_rfl
theorem sz5 : szOf Try.prog 5 = 1 := by kernel_rfl
theorem ag5 : isAgg Try.prog 5 = false := by kernel_rfl
theorem ze5 : zero Try.prog 5 = some [V.int .u8 0] := by kernel_rfl
theorem u6 : Try.prog.underlying 6 = some (.int .u8) := by kernel_rfl
theorem sz6 : szOf Try.prog 6 = 1 := by kernel_rfl
theorem ag6 : isAgg Try.prog 6 = false := by kernel_rfl
theorem ze6 : zero Try.prog 6 = some [V.int .u8 0] := by kernel_rfl
theorem sz7 : szOf Try.prog 7 = 4 := by kernel_rfl
theorem ag7 : isAgg Try.prog 7 = true := by kernel_rfl
theorem ze7 : zero Try.prog 7 = some [V.int .i64 0, V.int .i64 0, V.bool false, V.int .u8 0] := by kernel_rfl
theorem la7 : layOf Try.prog 7 = some [(2, 0, 1), (3, 1, 1), (4, 2, 1), (6, 3, 1)] := by kernel_rfl
theorem bd7 (H : Hint) (d : Nat) (ty : TypeId) (ps : Array (Nat × Operand)) (s : St) : evV Try.prog H d ty (.build 7 ps) s = aggO (buildL Try.prog [(2, 0, 1), (3, 1, 1), (4, 2, 1), (6, 3, 1)] s [V.int .i64 0, V.int .i64 0, V.bool false, V.int .u8 0] ps.toList) := build_lay la7 ze7
theorem xb7 (H : Hint) (d : Nat) (ty : TypeId) (ps : Array (Nat × Operand)) (pos : String) (aft : Array Edge) (g : Option (Nat × Bool)) : isX Try.prog H { dst := some d, op := .build 7 ps, type := ty, pos := pos, after := aft, guard := g } = !memN d H.arrs := by kernel_rfl
theorem fa7_0 (v : V) : vFieldAddr Try.prog 7 0 v = faddr 0 v := by kernel_rfl
theorem fg7_0 (s : St) (v : V) : vField Try.prog s 7 0 v = fget 0 1 false v := by kernel_rfl
theorem fa7_1 (v : V) : vFieldAddr Try.prog 7 1 v = faddr 1 v := by kernel_rfl
theorem fg7_1 (s : St) (v : V) : vField Try.prog s 7 1 v = fget 1 1 false v := by kernel_rfl
theorem fa7_2 (v : V) : vFieldAddr Try.prog 7 2 v = faddr 2 v := by kernel_rfl
theorem fg7_2 (s : St) (v : V) : vField Try.prog s 7 2 v = fget 2 1 false v := by kernel_rfl
theorem fa7_3 (v : V) : vFieldAddr Try.prog 7 3 v = faddr 3 v := by kernel_rfl
theorem fg7_3 (s : St) (v : V) : vField Try.prog s 7 3 v = fget 3 1 false v := by kernel_rfl
theorem sz8 : szOf Try.prog 8 = 4 := by kernel_rfl
theorem ag8 : isAgg Try.prog 8 = true := by kernel_rfl
theorem ze8 : zero Try.prog 8 = some [V.int .i64 0, V.int .i64 0, V.bool false, V.int .u8 0] := by kernel_rfl
theorem la8 : layOf Try.prog 8 = some [(2, 0, 1), (3, 1, 1), (4, 2, 1), (6, 3, 1)] := by kernel_rfl
theorem bd8 (H : Hint) (d : Nat) (ty : TypeId) (ps : Array (Nat × Operand)) (s : St) : evV Try.prog H d ty (.build 8 ps) s = aggO (buildL Try.prog [(2, 0, 1), (3, 1, 1), (4, 2, 1), (6, 3, 1)] s [V.int .i64 0, V.int .i64 0, V.bool false, V.int .u8 0] ps.toList) := build_lay la8 ze8
theorem xb8 (H : Hint) (d : Nat) (ty : TypeId) (ps : Array (Nat × Operand)) (pos : String) (aft : Array Edge) (g : Option (Nat × Bool)) : isX Try.prog H { dst := some d, op := .build 8 ps, type := ty, pos := pos, after := aft, guard := g } = !memN d H.arrs := by kernel_rfl
theorem fa8_0 (v : V) : vFieldAddr Try.prog 8 0 v = faddr 0 v := by kernel_rfl
theorem fg8_0 (s : St) (v : V) : vField Try.prog s 8 0 v = fget 0 1 false v := by kernel_rfl
theorem fa8_1 (v : V) : vFieldAddr Try.prog 8 1 v = faddr 1 v := by kernel_rfl
theorem fg8_1 (s : St) (v : V) : vField Try.prog s 8 1 v = fget 1 1 false v := by kernel_rfl
theorem fa8_2 (v : V) : vFieldAddr Try.prog 8 2 v = faddr 2 v := by kernel_rfl
theorem fg8_2 (s : St) (v : V) : vField Try.prog s 8 2 v = fget 2 1 false v := by kernel_rfl
theorem fa8_3 (v : V) : vFieldAddr Try.prog 8 3 v = faddr 3 v := by kernel_rfl
theorem fg8_3 (s : St) (v : V) : vField Try.prog s 8 3 v = fget 3 1 false v := by kernel_rfl
theorem u9 : Try.prog.underlying 9 = some .string := by kernel_rfl
theorem sz9 : szOf Try.prog 9 = 1 := by kernel_rfl
theorem ag9 : isAgg Try.prog 9 = false := by kernel_rfl
theorem ze9 : zero Try.prog 9 = some [V.str ⟨#[]⟩] := by kernel_rfl
theorem u10 : Try.prog.underlying 10 = some .string := by kernel_rfl
theorem sz10 : szOf Try.prog 10 = 1 := by kernel_rfl
theorem ag10 : isAgg Try.prog 10 = false := by kernel_rfl
theorem ze10 : zero Try.prog 10 = some [V.str ⟨#[]⟩] := by kernel_rfl
theorem u11 : Try.prog.underlying 11 = some .string := by kernel_rfl
theorem sz11 : szOf Try.prog 11 = 1 := by kernel_rfl
theorem ag11 : isAgg Try.prog 11 = false := by kernel_rfl
theorem ze11 : zero Try.prog 11 = some [V.str ⟨#[]⟩] := by kernel_rfl
theorem u12 : Try.prog.underlying 12 = some (.int .u64) := by kernel_rfl
theorem sz12 : szOf Try.prog 12 = 1 := by kernel_rfl
theorem ag12 : isAgg Try.prog 12 = false := by kernel_rfl
theorem ze12 : zero Try.prog 12 = some [V.int .u64 0] := by kernel_rfl
theorem sz13 : szOf Try.prog 13 = 2 := by kernel_rfl
theorem ag13 : isAgg Try.prog 13 = true := by kernel_rfl
theorem ze13 : zero Try.prog 13 = some [V.str ⟨#[]⟩, V.int .u64 0] := by kernel_rfl
theorem la13 : layOf Try.prog 13 = some [(9, 0, 1), (12, 1, 1)] := by kernel_rfl
theorem bd13 (H : Hint) (d : Nat) (ty : TypeId) (ps : Array (Nat × Operand)) (s : St) : evV Try.prog H d ty (.build 13 ps) s = aggO (buildL Try.prog [(9, 0, 1), (12, 1, 1)] s [V.str ⟨#[]⟩, V.int .u64 0] ps.toList) := build_lay la13 ze13
theorem xb13 (H : Hint) (d : Nat) (ty : TypeId) (ps : Array (Nat × Operand)) (pos : String) (aft : Array Edge) (g : Option (Nat × Bool)) : isX Try.prog H { dst := some d, op := .build 13 ps, type := ty, pos := pos, after := aft, guard := g } = !memN d H.arrs := by kernel_rfl
theorem fa13_0 (v : V) : vFieldAddr Try.prog 13 0 v = faddr 0 v := by kernel_rfl
theorem fg13_0 (s : St) (v : V) : vField Try.prog s 13 0 v = fget 0 1 false v := by kernel_rfl
theorem fa13_1 (v : V) : vFieldAddr Try.prog 13 1 v = faddr 1 v := by kernel_rfl
theorem fg13_1 (s : St) (v : V) : vField Try.prog s 13 1 v = fget 1 1 false v := by kernel_rfl
theorem sz14 : szOf Try.prog 14 = 2 := by kernel_rfl
theorem ag14 : isAgg Try.prog 14 = true := by kernel_rfl
theorem ze14 : zero Try.prog 14 = some [V.str ⟨#[]⟩, V.int .u64 0] := by kernel_rfl
theorem la14 : layOf Try.prog 14 = some [(9, 0, 1), (12, 1, 1)] := by kernel_rfl
theorem bd14 (H : Hint) (d : Nat) (ty : TypeId) (ps : Array (Nat × Operand)) (s : St) : evV Try.prog H d ty (.build 14 ps) s = aggO (buildL Try.prog [(9, 0, 1), (12, 1, 1)] s [V.str ⟨#[]⟩, V.int .u64 0] ps.toList) := build_lay la14 ze14
theorem xb14 (H : Hint) (d : Nat) (ty : TypeId) (ps : Array (Nat × Operand)) (pos : String) (aft : Array Edge) (g : Option (Nat × Bool)) : isX Try.prog H { dst := some d, op := .build 14 ps, type := ty, pos := pos, after := aft, guard := g } = !memN d H.arrs := by kernel_rfl
theorem fa14_0 (v : V) : vFieldAddr Try.prog 14 0 v = faddr 0 v := by kernel_rfl
theorem fg14_0 (s : St) (v : V) : vField Try.prog s 14 0 v = fget 0 1 false v := by kernel_rfl
theorem fa14_1 (v : V) : vFieldAddr Try.prog 14 1 v = faddr 1 v := by kernel_rfl
theorem fg14_1 (s : St) (v : V) : vField Try.prog s 14 1 v = fget 1 1 false v := by kernel_rfl
theorem u15 : Try.prog.underlying 15 = some (.pointer 89) := by kernel_rfl
theorem sz15 : szOf Try.prog 15 = 1 := by kernel_rfl
theorem ag15 : isAgg Try.prog 15 = false := by kernel_rfl
theorem ze15 : zero Try.prog 15 = some [V.nilp] := by kernel_rfl
theorem u16 : Try.prog.underlying 16 = some (.pointer 92) := by kernel_rfl
theorem sz16 : szOf Try.prog 16 = 1 := by kernel_rfl
theorem ag16 : isAgg Try.prog 16 = false := by kernel_rfl
theorem ze16 : zero Try.prog 16 = some [V.nilp] := by kernel_rfl
theorem u17 : Try.prog.underlying 17 = some (.pointer 102) := by kernel_rfl
theorem sz17 : szOf Try.prog 17 = 1 := by kernel_rfl
theorem ag17 : isAgg Try.prog 17 = false := by kernel_rfl
theorem ze17 : zero Try.prog 17 = some [V.nilp] := by kernel_rfl
theorem sz18 : szOf Try.prog 18 = 1 := by kernel_rfl
theorem ag18 : isAgg Try.prog 18 = true := by kernel_rfl
theorem ze18 : zero Try.prog 18 = some [V.nilp] := by kernel_rfl
theorem la18 : layOf Try.prog 18 = some [(17, 0, 1)] := by kernel_rfl
theorem bd18 (H : Hint) (d : Nat) (ty : TypeId) (ps : Array (Nat × Operand)) (s : St) : evV Try.prog H d ty (.build 18 ps) s = aggO (buildL Try.prog [(17, 0, 1)] s [V.nilp] ps.toList) := build_lay la18 ze18
theorem xb18 (H : Hint) (d : Nat) (ty : TypeId) (ps : Array (Nat × Operand)) (pos : String) (aft : Array Edge) (g : Option (Nat × Bool)) : isX Try.prog H { dst := some d, op := .build 18 ps, type := ty, pos := pos, after := aft, guard := g } = !memN d H.arrs := by kernel_rfl
theorem fa18_0 (v : V) : vFieldAddr Try.prog 18 0 v = faddr 0 v := by kernel_rfl
theorem fg18_0 (s : St) (v : V) : vField Try.prog s 18 0 v = fget 0 1 false v := by kernel_rfl
theorem sz19 : szOf Try.prog 19 = 1 := by kernel_rfl
theorem ag19 : isAgg Try.prog 19 = true := by kernel_rfl
theorem ze19 : zero Try.prog 19 = some [V.nilp] := by kernel_rfl
theorem la19 : layOf Try.prog 19 = some [(17, 0, 1)] := by kernel_rfl
theorem bd19 (H : Hint) (d : Nat) (ty : TypeId) (ps : Array (Nat × Operand)) (s : St) : evV Try.prog H d ty (.build 19 ps) s = aggO (buildL Try.prog [(17, 0, 1)] s [V.nilp] ps.toList) := build_lay la19 ze19
theorem xb19 (H : Hint) (d : Nat) (ty : TypeId) (ps : Array (Nat × Operand)) (pos : String) (aft : Array Edge) (g : Option (Nat × Bool)) : isX Try.prog H { dst := some d, op := .build 19 ps, type := ty, pos := pos, after := aft, guard := g } = !memN d H.arrs := by kernel_rfl
theorem fa19_0 (v : V) : vFieldAddr Try.prog 19 0 v = faddr 0 v := by kernel_rfl
theorem fg19_0 (s : St) (v : V) : vField Try.prog s 19 0 v = fget 0 1 false v := by kernel_rfl
theorem u21 : Try.prog.underlying 21 = some (.int .i32) := by kernel_rfl
theorem sz21 : szOf Try.prog 21 = 1 := by kernel_rfl
theorem ag21 : isAgg Try.prog 21 = false := by kernel_rfl
theorem ze21 : zero Try.prog 21 = some [V.int .i32 0] := by kernel_rfl
theorem u22 : Try.prog.underlying 22 = some (.slice 5) := by kernel_rfl
theorem sz22 : szOf Try.prog 22 = 1 := by kernel_rfl
theorem ag22 : isAgg Try.prog 22 = false := by kernel_rfl
theorem eo22 : elemOf Try.prog 22 = 5 := by kernel_rfl
theorem es22 : elemSz Try.prog 22 = 1 := by kernel_rfl
theorem gr22 : growB Try.prog 22 = true := by kernel_rfl
theorem df22 : dflt Try.prog 22 = V.int .u8 0 := by kernel_rfl
theorem ze22 : zero Try.prog 22 = some [V.slc true 1 []] := by kernel_rfl
theorem sz23 : szOf Try.prog 23 = 1 := by kernel_rfl
theorem ag23 : isAgg Try.prog 23 = false := by kernel_rfl
theorem ze23 : zero Try.prog 23 = some [V.nilfn] := by kernel_rfl
theorem u24 : Try.prog.underlying 24 = some (.slice 4) := by kernel_rfl
theorem sz24 : szOf Try.prog 24 = 1 := by kernel_rfl
theorem ag24 : isAgg Try.prog 24 = false := by kernel_rfl
theorem eo24 : elemOf Try.prog 24 = 4 := by kernel_rfl
theorem es24 : elemSz Try.prog 24 = 1 := by kernel_rfl
theorem gr24 : growB Try.prog 24 = true := by kernel_rfl
theorem df24 : dflt Try.prog 24 = V.bool false := by kernel_rfl
theorem ze24 : zero Try.prog 24 = some [V.slc true 1 []] := by kernel_rfl
theorem u25 : Try.prog.underlying 25 = some (.slice 52) := by kernel_rfl
theorem sz25 : szOf Try.prog 25 = 1 := by kernel_rfl
theorem ag25 : isAgg Try.prog 25 = false := by kernel_rfl
theorem eo25 : elemOf Try.prog 25 = 52 := by kernel_rfl
theorem es25 : elemSz Try.prog 25 = 1 := by kernel_rfl
theorem gr25 : growB Try.prog 25 = true := by kernel_rfl
theorem df25 : dflt Try.prog 25 = V.slc false 1 [] := by kernel_rfl
theorem ze25 : zero Try.prog 25 = some [V.slc true 1 []] := by kernel_rfl
theorem sz26 : szOf Try.prog 26 = 2 := by kernel_rfl
theorem ag26 : isAgg Try.prog 26 = true := by kernel_rfl
theorem ze26 : zero Try.prog 26 = some [V.slc true 1 [], V.slc true 1 []] := by kernel_rfl
theorem la26 : layOf Try.prog 26 = some [(24, 0, 1), (25, 1, 1)] := by kernel_rfl
theorem bd26 (H : Hint) (d : Nat) (ty : TypeId) (ps : Array (Nat × Operand)) (s : St) : evV Try.prog H d ty (.build 26 ps) s = aggO (buildL Try.prog [(24, 0, 1), (25, 1, 1)] s [V.slc true 1 [], V.slc true 1 []] ps.toList) := build_lay la26 ze26
theorem xb26 (H : Hint) (d : Nat) (ty : TypeId) (ps : Array (Nat × Operand)) (pos : String) (aft : Array Edge) (g : Option (Nat × Bool)) : isX Try.prog H { dst := some d, op := .build 26 ps, type := ty, pos := pos, after := aft, guard := g } = !memN d H.arrs := by kernel_rfl
theorem fa26_0 (v : V) : vFieldAddr Try.prog 26 0 v = faddr 0 v := by kernel_rfl
theorem fg26_0 (s : St) (v : V) : vField Try.prog s 26 0 v = fget 0 1 false v := by kernel_rfl
theorem fa26_1 (v : V) : vFieldAddr Try.prog 26 1 v = faddr 1 v := by kernel_rfl
theorem fg26_1 (s : St) (v : V) : vField Try.prog s 26 1 v = fget 1 1 false v := by kernel_rfl
theorem sz27 : szOf Try.prog 27 = 2 := by kernel_rfl
theorem ag27 : isAgg Try.prog 27 = true := by kernel_rfl
theorem ze27 : zero Try.prog 27 = some [V.slc true 1 [], V.slc true 1 []] := by kernel_rfl
theorem la27 : layOf Try.prog 27 = some [(24, 0, 1), (25, 1, 1)] := by kernel_rfl
theorem bd27 (H : Hint) (d : Nat) (ty : TypeId) (ps : Array (Nat × Operand)) (s : St) : evV Try.prog H d ty (.build 27 ps) s = aggO (buildL Try.prog [(24, 0, 1), (25, 1, 1)] s [V.slc true 1 [], V.slc true 1 []] ps.toList) := build_lay la27 ze27
theorem xb27 (H : Hint) (d : Nat) (ty : TypeId) (ps : Array (Nat × Operand)) (pos : String) (aft : Array Edge) (g : Option (Nat × Bool)) : isX Try.prog H { dst := some d, op := .build 27 ps, type := ty, pos := pos, after := aft, guard := g } = !memN d H.arrs := by kernel_rfl
theorem fa27_0 (v : V) : vFieldAddr Try.prog 27 0 v = faddr 0 v := by kernel_rfl
theorem fg27_0 (s : St) (v : V) : vField Try.prog s 27 0 v = fget 0 1 false v := by kernel_rfl
theorem fa27_1 (v : V) : vFieldAddr Try.prog 27 1 v = faddr 1 v := by kernel_rfl
theorem fg27_1 (s : St) (v : V) : vField Try.prog s 27 1 v = fget 1 1 false v := by kernel_rfl
theorem sz28 : szOf Try.prog 28 = 3 := by kernel_rfl
theorem ag28 : isAgg Try.prog 28 = true := by kernel_rfl
theorem ze28 : zero Try.prog 28 = some [V.str ⟨#[]⟩, V.str ⟨#[]⟩, V.str ⟨#[]⟩] := by kernel_rfl
theorem la28 : layOf Try.prog 28 = some [(9, 0, 1), (9, 1, 1), (9, 2, 1)] := by kernel_rfl
theorem bd28 (H : Hint) (d : Nat) (ty : TypeId) (ps : Array (Nat × Operand)) (s : St) : evV Try.prog H d ty (.build 28 ps) s = aggO (buildL Try.prog [(9, 0, 1), (9, 1, 1), (9, 2, 1)] s [V.str ⟨#[]⟩, V.str ⟨#[]⟩, V.str ⟨#[]⟩] ps.toList) := build_lay la28 ze28
theorem xb28 (H : Hint) (d : Nat) (ty : TypeId) (ps : Array (Nat × Operand)) (pos : String) (aft : Array Edge) (g : Option (Nat × Bool)) : isX Try.prog H { dst := some d, op := .build 28 ps, type := ty, pos := pos, after := aft, guard := g } = !memN d H.arrs := by kernel_rfl
theorem fa28_0 (v : V) : vFieldAddr Try.prog 28 0 v = faddr 0 v := by kernel_rfl
theorem fg28_0 (s : St) (v : V) : vField Try.prog s 28 0 v = fget 0 1 false v := by kernel_rfl
theorem fa28_1 (v : V) : vFieldAddr Try.prog 28 1 v = faddr 1 v := by kernel_rfl
theorem fg28_1 (s : St) (v : V) : vField Try.prog s 28 1 v = fget 1 1 false v := by kernel_rfl
theorem fa28_2 (v : V) : vFieldAddr Try.prog 28 2 v = faddr 2 v := by kernel_rfl
theorem fg28_2 (s : St) (v : V) : vField Try.prog s 28 2 v = fget 2 1 false v := by kernel_rfl
theorem sz29 : szOf Try.prog 29 = 3 := by kernel_rfl
theorem ag29 : isAgg Try.prog 29 = true := by kernel_rfl
theorem ze29 : zero Try.prog 29 = some [V.str ⟨#[]⟩, V.str ⟨#[]⟩, V.str ⟨#[]⟩] := by kernel_rfl
theorem la29 : layOf Try.prog 29 = some [(9, 0, 1), (9, 1, 1), (9, 2, 1)] := by kernel_rfl
theorem bd29 (H : Hint) (d : Nat) (ty : TypeId) (ps : Array (Nat × Operand)) (s : St) : evV Try.prog H d ty (.build 29 ps) s = aggO (buildL Try.prog [(9, 0, 1), (9, 1, 1), (9, 2, 1)] s [V.str ⟨#[]⟩, V.str ⟨#[]⟩, V.str ⟨#[]⟩] ps.toList) := build_lay la29 ze29
theorem xb29 (H : Hint) (d : Nat) (ty : TypeId) (ps : Array (Nat × Operand)) (pos : String) (aft : Array Edge) (g : Option (Nat × Bool)) : isX Try.prog H { dst := some d, op := .build 29 ps, type := ty, pos := pos, after := aft, guard := g } = !memN d H.arrs := by kernel_rfl
theorem fa29_0 (v : V) : vFieldAddr Try.prog 29 0 v = faddr 0 v := by kernel_rfl
theorem fg29_0 (s : St) (v : V) : vField Try.prog s 29 0 v = fget 0 1 false v := by kernel_rfl
theorem fa29_1 (v : V) : vFieldAddr Try.prog 29 1 v = faddr 1 v := by kernel_rfl
theorem fg29_1 (s : St) (v : V) : vField Try.prog s 29 1 v = fget 1 1 false v := by kernel_rfl
theorem fa29_2 (v : V) : vFieldAddr Try.prog 29 2 v = faddr 2 v := by kernel_rfl
theorem fg29_2 (s : St) (v : V) : vField Try.prog s 29 2 v = fget 2 1 false v := by kernel_rfl
theorem ev29 (x0 y0 : ByteArray) (x1 y1 : ByteArray) (x2 y2 : ByteArray) : eqV Try.prog 29 (.agg [V.str x0, V.str x1, V.str x2]) (.agg [V.str y0, V.str y1, V.str y2]) = some ((x0.toList == y0.toList) && ((x1.toList == y1.toList) && ((x2.toList == y2.toList) && true))) := by kernel_rfl
theorem eg29 : Try.prog.eqGuardType Try.prog.depth 29 = false := by kernel_rfl
theorem sz31 : szOf Try.prog 31 = 1 := by kernel_rfl
theorem ag31 : isAgg Try.prog 31 = false := by kernel_rfl
theorem ze31 : zero Try.prog 31 = some [V.nilfn] := by kernel_rfl
theorem sz33 : szOf Try.prog 33 = 1 := by kernel_rfl
theorem ag33 : isAgg Try.prog 33 = false := by kernel_rfl
theorem ze33 : zero Try.prog 33 = some [V.nilfn] := by kernel_rfl
theorem sz34 : szOf Try.prog 34 = 1 := by kernel_rfl
theorem ag34 : isAgg Try.prog 34 = false := by kernel_rfl
theorem ze34 : zero Try.prog 34 = some [V.nilfn] := by kernel_rfl
theorem u35 : Try.prog.underlying 35 = some (.slice 9) := by kernel_rfl
theorem sz35 : szOf Try.prog 35 = 1 := by kernel_rfl
theorem ag35 : isAgg Try.prog 35 = false := by kernel_rfl
theorem eo35 : elemOf Try.prog 35 = 9 := by kernel_rfl
theorem es35 : elemSz Try.prog 35 = 1 := by kernel_rfl
theorem gr35 : growB Try.prog 35 = true := by kernel_rfl
theorem df35 : dflt Try.prog 35 = V.str ⟨#[]⟩ := by kernel_rfl
theorem ze35 : zero Try.prog 35 = some [V.slc true 1 []] := by kernel_rfl
theorem sz36 : szOf Try.prog 36 = 1 := by kernel_rfl
theorem ag36 : isAgg Try.prog 36 = false := by kernel_rfl
theorem ze36 : zero Try.prog 36 = some [V.nilfn] := by kernel_rfl
theorem sz38 : szOf Try.prog 38 = 1 := by kernel_rfl
theorem ag38 : isAgg Try.prog 38 = false := by kernel_rfl
theorem ze38 : zero Try.prog 38 = some [V.nilfn] := by kernel_rfl
theorem sz40 : szOf Try.prog 40 = 1 := by kernel_rfl
theorem ag40 : isAgg Try.prog 40 = false := by kernel_rfl
theorem ze40 : zero Try.prog 40 = some [V.nilfn] := by kernel_rfl
theorem sz41 : szOf Try.prog 41 = 1 := by kernel_rfl
theorem ag41 : isAgg Try.prog 41 = false := by kernel_rfl
theorem ze41 : zero Try.prog 41 = some [V.nilfn] := by kernel_rfl
theorem sz42 : szOf Try.prog 42 = 1 := by kernel_rfl
theorem ag42 : isAgg Try.prog 42 = false := by kernel_rfl
theorem ze42 : zero Try.prog 42 = some [V.nilfn] := by kernel_rfl
theorem sz44 : szOf Try.prog 44 = 1 := by kernel_rfl
theorem ag44 : isAgg Try.prog 44 = false := by kernel_rfl
theorem ze44 : zero Try.prog 44 = some [V.nilfn] := by kernel_rfl
theorem sz45 : szOf Try.prog 45 = 1 := by kernel_rfl
theorem ag45 : isAgg Try.prog 45 = false := by kernel_rfl
theorem ze45 : zero Try.prog 45 = some [V.nilfn] := by kernel_rfl
theorem u46 : Try.prog.underlying 46 = some (.pointer 63) := by kernel_rfl
theorem sz46 : szOf Try.prog 46 = 1 := by kernel_rfl
theorem ag46 : isAgg Try.prog 46 = false := by kernel_rfl
theorem ze46 : zero Try.prog 46 = some [V.nilp] := by kernel_rfl
theorem sz47 : szOf Try.prog 47 = 1 := by kernel_rfl
theorem ag47 : isAgg Try.prog 47 = false := by kernel_rfl
theorem ze47 : zero Try.prog 47 = some [V.nilfn] := by kernel_rfl
theorem sz48 : szOf Try.prog 48 = 1 := by kernel_rfl
theorem ag48 : isAgg Try.prog 48 = false := by kernel_rfl
theorem ze48 : zero Try.prog 48 = some [V.nilfn] := by kernel_rfl
theorem sz49 : szOf Try.prog 49 = 1 := by kernel_rfl
theorem ag49 : isAgg Try.prog 49 = false := by kernel_rfl
theorem ze49 : zero Try.prog 49 = some [V.nilfn] := by kernel_rfl
theorem sz50 : szOf Try.prog 50 = 1 := by kernel_rfl
theorem ag50 : isAgg Try.prog 50 = false := by kernel_rfl
theorem ze50 : zero Try.prog 50 = some [V.nilfn] := by kernel_rfl
theorem sz51 : szOf Try.prog 51 = 1 := by kernel_rfl
theorem ag51 : isAgg Try.prog 51 = false := by kernel_rfl
theorem ze51 : zero Try.prog 51 = some [V.nilfn] := by kernel_rfl
theorem u52 : Try.prog.underlying 52 = some (.slice 3) := by kernel_rfl
theorem sz52 : szOf Try.prog 52 = 1 := by kernel_rfl
theorem ag52 : isAgg Try.prog 52 = false := by kernel_rfl
theorem eo52 : elemOf Try.prog 52 = 3 := by kernel_rfl
theorem es52 : elemSz Try.prog 52 = 1 := by kernel_rfl
theorem gr52 : growB Try.prog 52 = true := by kernel_rfl
theorem df52 : dflt Try.prog 52 = V.int .i64 0 := by kernel_rfl
theorem ze52 : zero Try.prog 52 = some [V.slc true 1 []] := by kernel_rfl
theorem sz53 : szOf Try.prog 53 = 1 := by kernel_rfl
theorem ag53 : isAgg Try.prog 53 = false := by kernel_rfl
theorem ze53 : zero Try.prog 53 = some [V.nilfn] := by kernel_rfl
theorem sz54 : szOf Try.prog 54 = 1 := by kernel_rfl
theorem ag54 : isAgg Try.prog 54 = false := by kernel_rfl
theorem ze54 : zero Try.prog 54 = some [V.nilfn] := by kernel_rfl
theorem sz56 : szOf Try.prog 56 = 1 := by kernel_rfl
theorem ag56 : isAgg Try.prog 56 = false := by kernel_rfl
theorem ze56 : zero Try.prog 56 = some [V.nilfn] := by kernel_rfl
theorem sz57 : szOf Try.prog 57 = 1 := by kernel_rfl
theorem ag57 : isAgg Try.prog 57 = false := by kernel_rfl
theorem ze57 : zero Try.prog 57 = some [V.nilfn] := by kernel_rfl
theorem sz58 : szOf Try.prog 58 = 1 := by kernel_rfl
theorem ag58 : isAgg Try.prog 58 = false := by kernel_rfl
theorem ze58 : zero Try.prog 58 = some [V.nilfn] := by kernel_rfl
theorem sz59 : szOf Try.prog 59 = 1 := by kernel_rfl
theorem ag59 : isAgg Try.prog 59 = false := by kernel_rfl
theorem ze59 : zero Try.prog 59 = some [V.nilfn] := by kernel_rfl
theorem sz60 : szOf Try.prog 60 = 1 := by kernel_rfl
theorem ag60 : isAgg Try.prog 60 = false := by kernel_rfl
theorem ze60 : zero Try.prog 60 = some [V.nilfn] := by kernel_rfl
theorem sz61 : szOf Try.prog 61 = 1 := by kernel_rfl
theorem ag61 : isAgg Try.prog 61 = false := by kernel_rfl
theorem ze61 : zero Try.prog 61 = some [V.nilfn] := by kernel_rfl
theorem sz62 : szOf Try.prog 62 = 3 := by kernel_rfl
theorem ag62 : isAgg Try.prog 62 = true := by kernel_rfl
theorem ze62 : zero Try.prog 62 = some [V.slc true 1 [], V.int .i64 0, V.int .i64 0] := by kernel_rfl
theorem la62 : layOf Try.prog 62 = some [(22, 0, 1), (3, 1, 1), (3, 2, 1)] := by kernel_rfl
theorem bd62 (H : Hint) (d : Nat) (ty : TypeId) (ps : Array (Nat × Operand)) (s : St) : evV Try.prog H d ty (.build 62 ps) s = aggO (buildL Try.prog [(22, 0, 1), (3, 1, 1), (3, 2, 1)] s [V.slc true 1 [], V.int .i64 0, V.int .i64 0] ps.toList) := build_lay la62 ze62
theorem xb62 (H : Hint) (d : Nat) (ty : TypeId) (ps : Array (Nat × Operand)) (pos : String) (aft : Array Edge) (g : Option (Nat × Bool)) : isX Try.prog H { dst := some d, op := .build 62 ps, type := ty, pos := pos, after := aft, guard := g } = !memN d H.arrs := by kernel_rfl
theorem fa62_0 (v : V) : vFieldAddr Try.prog 62 0 v = faddr 0 v := by kernel_rfl
theorem fg62_0 (s : St) (v : V) : vField Try.prog s 62 0 v = fget 0 1 false v := by kernel_rfl
theorem fa62_1 (v : V) : vFieldAddr Try.prog 62 1 v = faddr 1 v := by kernel_rfl
theorem fg62_1 (s : St) (v : V) : vField Try.prog s 62 1 v = fget 1 1 false v := by kernel_rfl
theorem fa62_2 (v : V) : vFieldAddr Try.prog 62 2 v = faddr 2 v := by kernel_rfl
theorem fg62_2 (s : St) (v : V) : vField Try.prog s 62 2 v = fget 2 1 false v := by kernel_rfl
theorem sz63 : szOf Try.prog 63 = 3 := by kernel_rfl
theorem ag63 : isAgg Try.prog 63 = true := by kernel_rfl
theorem ze63 : zero Try.prog 63 = some [V.slc true 1 [], V.int .i64 0, V.int .i64 0] := by kernel_rfl
theorem la63 : layOf Try.prog 63 = some [(22, 0, 1), (3, 1, 1), (3, 2, 1)] := by kernel_rfl
theorem bd63 (H : Hint) (d : Nat) (ty : TypeId) (ps : Array (Nat × Operand)) (s : St) : evV Try.prog H d ty (.build 63 ps) s = aggO (buildL Try.prog [(22, 0, 1), (3, 1, 1), (3, 2, 1)] s [V.slc true 1 [], V.int .i64 0, V.int .i64 0] ps.toList) := build_lay la63 ze63
theorem xb63 (H : Hint) (d : Nat) (ty : TypeId) (ps : Array (Nat × Operand)) (pos : String) (aft : Array Edge) (g : Option (Nat × Bool)) : isX Try.prog H { dst := some d, op := .build 63 ps, type := ty, pos := pos, after := aft, guard := g } = !memN d H.arrs := by kernel_rfl
theorem fa63_0 (v : V) : vFieldAddr Try.prog 63 0 v = faddr 0 v := by kernel_rfl
theorem fg63_0 (s : St) (v : V) : vField Try.prog s 63 0 v = fget 0 1 false v := by kernel_rfl
theorem fa63_1 (v : V) : vFieldAddr Try.prog 63 1 v = faddr 1 v := by kernel_rfl
theorem fg63_1 (s : St) (v : V) : vField Try.prog s 63 1 v = fget 1 1 false v := by kernel_rfl
theorem fa63_2 (v : V) : vFieldAddr Try.prog 63 2 v = faddr 2 v := by kernel_rfl
theorem fg63_2 (s : St) (v : V) : vField Try.prog s 63 2 v = fget 2 1 false v := by kernel_rfl
theorem sz64 : szOf Try.prog 64 = 1 := by kernel_rfl
theorem ag64 : isAgg Try.prog 64 = false := by kernel_rfl
theorem ze64 : zero Try.prog 64 = some [V.nilfn] := by kernel_rfl
theorem sz65 : szOf Try.prog 65 = 1 := by kernel_rfl
theorem ag65 : isAgg Try.prog 65 = false := by kernel_rfl
theorem ze65 : zero Try.prog 65 = some [V.nilfn] := by kernel_rfl
theorem sz66 : szOf Try.prog 66 = 1 := by kernel_rfl
theorem ag66 : isAgg Try.prog 66 = false := by kernel_rfl
theorem ze66 : zero Try.prog 66 = some [V.nilfn] := by kernel_rfl
theorem sz67 : szOf Try.prog 67 = 1 := by kernel_rfl
theorem ag67 : isAgg Try.prog 67 = false := by kernel_rfl
theorem ze67 : zero Try.prog 67 = some [V.nilfn] := by kernel_rfl
theorem sz68 : szOf Try.prog 68 = 1 := by kernel_rfl
theorem ag68 : isAgg Try.prog 68 = false := by kernel_rfl
theorem ze68 : zero Try.prog 68 = some [V.nilfn] := by kernel_rfl
theorem sz69 : szOf Try.prog 69 = 1 := by kernel_rfl
theorem ag69 : isAgg Try.prog 69 = false := by kernel_rfl
theorem ze69 : zero Try.prog 69 = some [V.nilfn] := by kernel_rfl
theorem sz70 : szOf Try.prog 70 = 1 := by kernel_rfl
theorem ag70 : isAgg Try.prog 70 = false := by kernel_rfl
theorem ze70 : zero Try.prog 70 = some [V.nilfn] := by kernel_rfl
theorem sz71 : szOf Try.prog 71 = 1 := by kernel_rfl
theorem ag71 : isAgg Try.prog 71 = false := by kernel_rfl
theorem ze71 : zero Try.prog 71 = some [V.nilfn] := by kernel_rfl
theorem sz72 : szOf Try.prog 72 = 1 := by kernel_rfl
theorem ag72 : isAgg Try.prog 72 = false := by kernel_rfl
theorem ze72 : zero Try.prog 72 = some [V.nilfn] := by kernel_rfl
theorem sz73 : szOf Try.prog 73 = 1 := by kernel_rfl
theorem ag73 : isAgg Try.prog 73 = false := by kernel_rfl
theorem ze73 : zero Try.prog 73 = some [V.nilfn] := by kernel_rfl
theorem u74 : Try.prog.underlying 74 = some (.map 3 3) := by kernel_rfl
theorem sz74 : szOf Try.prog 74 = 1 := by kernel_rfl
theorem ag74 : isAgg Try.prog 74 = false := by kernel_rfl
theorem u75 : Try.prog.underlying 75 = some (.map 76 3) := by kernel_rfl
theorem sz75 : szOf Try.prog 75 = 1 := by kernel_rfl
theorem ag75 : isAgg Try.prog 75 = false := by kernel_rfl
theorem xa76 (H : Hint) (d : Nat) (ty : TypeId) (ps : Array (Nat × Operand)) (pos : String) (aft : Array Edge) (g : Option (Nat × Bool)) : isX Try.prog H { dst := some d, op := .build 76 ps, type := ty, pos := pos, after := aft, guard := g } = memN d H.arrs := by kernel_rfl
theorem u76 : Try.prog.underlying 76 = some (.array 4 3) := by kernel_rfl
theorem sz76 : szOf Try.prog 76 = 4 := by kernel_rfl
theorem ag76 : isAgg Try.prog 76 = true := by kernel_rfl
theorem eo76 : elemOf Try.prog 76 = 3 := by kernel_rfl
theorem es76 : elemSz Try.prog 76 = 1 := by kernel_rfl
theorem ze76 : zero Try.prog 76 = some [V.int .i64 0, V.int .i64 0, V.int .i64 0, V.int .i64 0] := by kernel_rfl
theorem sz77 : szOf Try.prog 77 = 1 := by kernel_rfl
theorem ag77 : isAgg Try.prog 77 = false := by kernel_rfl
theorem ze77 : zero Try.prog 77 = some [V.nilfn] := by kernel_rfl
theorem sz78 : szOf Try.prog 78 = 1 := by kernel_rfl
theorem ag78 : isAgg Try.prog 78 = false := by kernel_rfl
theorem ze78 : zero Try.prog 78 = some [V.nilfn] := by kernel_rfl
theorem sz80 : szOf Try.prog 80 = 1 := by kernel_rfl
theorem ag80 : isAgg Try.prog 80 = false := by kernel_rfl
theorem ze80 : zero Try.prog 80 = some [V.nilfn] := by kernel_rfl
theorem sz81 : szOf Try.prog 81 = 1 := by kernel_rfl
theorem ag81 : isAgg Try.prog 81 = false := by kernel_rfl
theorem ze81 : zero Try.prog 81 = some [V.nilfn] := by kernel_rfl
theorem sz82 : szOf Try.prog 82 = 1 := by kernel_rfl
theorem ag82 : isAgg Try.prog 82 = false := by kernel_rfl
theorem ze82 : zero Try.prog 82 = some [V.nilfn] := by kernel_rfl
theorem sz83 : szOf Try.prog 83 = 1 := by kernel_rfl
theorem ag83 : isAgg Try.prog 83 = false := by kernel_rfl
theorem ze83 : zero Try.prog 83 = some [V.nilfn] := by kernel_rfl
theorem sz84 : szOf Try.prog 84 = 1 := by kernel_rfl
theorem ag84 : isAgg Try.prog 84 = false := by kernel_rfl
theorem ze84 : zero Try.prog 84 = some [V.nilfn] := by kernel_rfl
theorem sz85 : szOf Try.prog 85 = 1 := by kernel_rfl
theorem ag85 : isAgg Try.prog 85 = false := by kernel_rfl
theorem ze85 : zero Try.prog 85 = some [V.nilfn] := by kernel_rfl
theorem u86 : Try.prog.underlying 86 = some (.int .u64) := by kernel_rfl
theorem sz86 : szOf Try.prog 86 = 1 := by kernel_rfl
theorem ag86 : isAgg Try.prog 86 = false := by kernel_rfl
theorem ze86 : zero Try.prog 86 = some [V.int .u64 0] := by kernel_rfl
theorem sz87 : szOf Try.prog 87 = 1 := by kernel_rfl
theorem ag87 : isAgg Try.prog 87 = false := by kernel_rfl
theorem ze87 : zero Try.prog 87 = some [V.nilfn] := by kernel_rfl
theorem sz88 : szOf Try.prog 88 = 4 := by kernel_rfl
theorem ag88 : isAgg Try.prog 88 = true := by kernel_rfl
theorem ze88 : zero Try.prog 88 = some [V.nilp, V.nilp, V.nilp, V.str ⟨#[]⟩] := by kernel_rfl
theorem la88 : layOf Try.prog 88 = some [(17, 0, 1), (17, 1, 1), (17, 2, 1), (9, 3, 1)] := by kernel_rfl
theorem bd88 (H : Hint) (d : Nat) (ty : TypeId) (ps : Array (Nat × Operand)) (s : St) : evV Try.prog H d ty (.build 88 ps) s = aggO (buildL Try.prog [(17, 0, 1), (17, 1, 1), (17, 2, 1), (9, 3, 1)] s [V.nilp, V.nilp, V.nilp, V.str ⟨#[]⟩] ps.toList) := build_lay la88 ze88
theorem xb88 (H : Hint) (d : Nat) (ty : TypeId) (ps : Array (Nat × Operand)) (pos : String) (aft : Array Edge) (g : Option (Nat × Bool)) : isX Try.prog H { dst := some d, op := .build 88 ps, type := ty, pos := pos, after := aft, guard := g } = !memN d H.arrs := by kernel_rfl
theorem fa88_0 (v : V) : vFieldAddr Try.prog 88 0 v = faddr 0 v := by kernel_rfl
theorem fg88_0 (s : St) (v : V) : vField Try.prog s 88 0 v = fget 0 1 false v := by kernel_rfl
theorem fa88_1 (v : V) : vFieldAddr Try.prog 88 1 v = faddr 1 v := by kernel_rfl
theorem fg88_1 (s : St) (v : V) : vField Try.prog s 88 1 v = fget 1 1 false v := by kernel_rfl
theorem fa88_2 (v : V) : vFieldAddr Try.prog 88 2 v = faddr 2 v := by kernel_rfl
theorem fg88_2 (s : St) (v : V) : vField Try.prog s 88 2 v = fget 2 1 false v := by kernel_rfl
theorem fa88_3 (v : V) : vFieldAddr Try.prog 88 3 v = faddr 3 v := by kernel_rfl
theorem fg88_3 (s : St) (v : V) : vField Try.prog s 88 3 v = fget 3 1 false v := by kernel_rfl
theorem sz89 : szOf Try.prog 89 = 4 := by kernel_rfl
theorem ag89 : isAgg Try.prog 89 = true := by kernel_rfl
theorem ze89 : zero Try.prog 89 = some [V.nilp, V.nilp, V.nilp, V.str ⟨#[]⟩] := by kernel_rfl
theorem la89 : layOf Try.prog 89 = some [(17, 0, 1), (17, 1, 1), (17, 2, 1), (9, 3, 1)] := by kernel_rfl
theorem bd89 (H : Hint) (d : Nat) (ty : TypeId) (ps : Array (Nat × Operand)) (s : St) : evV Try.prog H d ty (.build 89 ps) s = aggO (buildL Try.prog [(17, 0, 1), (17, 1, 1), (17, 2, 1), (9, 3, 1)] s [V.nilp, V.nilp, V.nilp, V.str ⟨#[]⟩] ps.toList) := build_lay la89 ze89
theorem xb89 (H : Hint) (d : Nat) (ty : TypeId) (ps : Array (Nat × Operand)) (pos : String) (aft : Array Edge) (g : Option (Nat × Bool)) : isX Try.prog H { dst := some d, op := .build 89 ps, type := ty, pos := pos, after := aft, guard := g } = !memN d H.arrs := by kernel_rfl
theorem fa89_0 (v : V) : vFieldAddr Try.prog 89 0 v = faddr 0 v := by kernel_rfl
theorem fg89_0 (s : St) (v : V) : vField Try.prog s 89 0 v = fget 0 1 false v := by kernel_rfl
theorem fa89_1 (v : V) : vFieldAddr Try.prog 89 1 v = faddr 1 v := by kernel_rfl
theorem fg89_1 (s : St) (v : V) : vField Try.prog s 89 1 v = fget 1 1 false v := by kernel_rfl
theorem fa89_2 (v : V) : vFieldAddr Try.prog 89 2 v = faddr 2 v := by kernel_rfl
theorem fg89_2 (s : St) (v : V) : vField Try.prog s 89 2 v = fget 2 1 false v := by kernel_rfl
theorem fa89_3 (v : V) : vFieldAddr Try.prog 89 3 v = faddr 3 v := by kernel_rfl
theorem fg89_3 (s : St) (v : V) : vField Try.prog s 89 3 v = fget 3 1 false v := by kernel_rfl
theorem xa90 (H : Hint) (d : Nat) (ty : TypeId) (ps : Array (Nat × Operand)) (pos : String) (aft : Array Edge) (g : Option (Nat × Bool)) : isX Try.prog H { dst := some d, op := .build 90 ps, type := ty, pos := pos, after := aft, guard := g } = memN d H.arrs := by kernel_rfl
theorem u90 : Try.prog.underlying 90 = some (.array 0 16) := by kernel_rfl
theorem sz90 : szOf Try.prog 90 = 0 := by kernel_rfl
theorem ag90 : isAgg Try.prog 90 = true := by kernel_rfl
theorem eo90 : elemOf Try.prog 90 = 16 := by kernel_rfl
theorem es90 : elemSz Try.prog 90 = 1 := by kernel_rfl
theorem ze90 : zero Try.prog 90 = some [] := by kernel_rfl
theorem sz91 : szOf Try.prog 91 = 0 := by kernel_rfl
theorem ag91 : isAgg Try.prog 91 = true := by kernel_rfl
theorem ze91 : zero Try.prog 91 = some [] := by kernel_rfl
theorem sz92 : szOf Try.prog 92 = 0 := by kernel_rfl
theorem ag92 : isAgg Try.prog 92 = true := by kernel_rfl
theorem ze92 : zero Try.prog 92 = some [] := by kernel_rfl
theorem sz93 : szOf Try.prog 93 = 1 := by kernel_rfl
theorem ag93 : isAgg Try.prog 93 = false := by kernel_rfl
theorem ze93 : zero Try.prog 93 = some [V.nilfn] := by kernel_rfl
theorem u94 : Try.prog.underlying 94 = some (.int .u32) := by kernel_rfl
theorem sz94 : szOf Try.prog 94 = 1 := by kernel_rfl
theorem ag94 : isAgg Try.prog 94 = false := by kernel_rfl
theorem ze94 : zero Try.prog 94 = some [V.int .u32 0] := by kernel_rfl
theorem u95 : Try.prog.underlying 95 = some (.int .u8) := by kernel_rfl
theorem sz95 : szOf Try.prog 95 = 1 := by kernel_rfl
theorem ag95 : isAgg Try.prog 95 = false := by kernel_rfl
theorem ze95 : zero Try.prog 95 = some [V.int .u8 0] := by kernel_rfl
theorem u96 : Try.prog.underlying 96 = some (.int .u8) := by kernel_rfl
theorem sz96 : szOf Try.prog 96 = 1 := by kernel_rfl
theorem ag96 : isAgg Try.prog 96 = false := by kernel_rfl
theorem ze96 : zero Try.prog 96 = some [V.int .u8 0] := by kernel_rfl
theorem sz97 : szOf Try.prog 97 = 1 := by kernel_rfl
theorem ag97 : isAgg Try.prog 97 = false := by kernel_rfl
theorem ze97 : zero Try.prog 97 = some [V.nilfn] := by kernel_rfl
theorem u98 : Try.prog.underlying 98 = some (.pointer 5) := by kernel_rfl
theorem sz98 : szOf Try.prog 98 = 1 := by kernel_rfl
theorem ag98 : isAgg Try.prog 98 = false := by kernel_rfl
theorem ze98 : zero Try.prog 98 = some [V.nilp] := by kernel_rfl
theorem u99 : Try.prog.underlying 99 = some (.int .i32) := by kernel_rfl
theorem sz99 : szOf Try.prog 99 = 1 := by kernel_rfl
theorem ag99 : isAgg Try.prog 99 = false := by kernel_rfl
theorem ze99 : zero Try.prog 99 = some [V.int .i32 0] := by kernel_rfl
theorem u100 : Try.prog.underlying 100 = some (.int .i32) := by kernel_rfl
theorem sz100 : szOf Try.prog 100 = 1 := by kernel_rfl
theorem ag100 : isAgg Try.prog 100 = false := by kernel_rfl
theorem ze100 : zero Try.prog 100 = some [V.int .i32 0] := by kernel_rfl
theorem sz101 : szOf Try.prog 101 = 11 := by kernel_rfl
theorem ag101 : isAgg Try.prog 101 = true := by kernel_rfl
theorem ze101 : zero Try.prog 101 = some [V.int .u64 0, V.int .u64 0, V.int .u32 0, V.int .u8 0, V.int .u8 0, V.int .u8 0, V.int .u8 0, V.nilfn, V.nilp, V.int .i32 0, V.int .i32 0] := by kernel_rfl
theorem la101 : layOf Try.prog 101 = some [(12, 0, 1), (12, 1, 1), (94, 2, 1), (95, 3, 1), (5, 4, 1), (5, 5, 1), (96, 6, 1), (97, 7, 1), (98, 8, 1), (99, 9, 1), (100, 10, 1)] := by kernel_rfl
theorem bd101 (H : Hint) (d : Nat) (ty : TypeId) (ps : Array (Nat × Operand)) (s : St) : evV Try.prog H d ty (.build 101 ps) s = aggO (buildL Try.prog [(12, 0, 1), (12, 1, 1), (94, 2, 1), (95, 3, 1), (5, 4, 1), (5, 5, 1), (96, 6, 1), (97, 7, 1), (98, 8, 1), (99, 9, 1), (100, 10, 1)] s [V.int .u64 0, V.int .u64 0, V.int .u32 0, V.int .u8 0, V.int .u8 0, V.int .u8 0, V.int .u8 0, V.nilfn, V.nilp, V.int .i32 0, V.int .i32 0] ps.toList) := build_lay la101 ze101
theorem xb101 (H : Hint) (d : Nat) (ty : TypeId) (ps : Array (Nat × Operand)) (pos : String) (aft : Array Edge) (g : Option (Nat × Bool)) : isX Try.prog H { dst := some d, op := .build 101 ps, type := ty, pos := pos, after := aft, guard := g } = !memN d H.arrs := by kernel_rfl
theorem fa101_0 (v : V) : vFieldAddr Try.prog 101 0 v = faddr 0 v := by kernel_rfl
theorem fg101_0 (s : St) (v : V) : vField Try.prog s 101 0 v = fget 0 1 false v := by kernel_rfl
theorem fa101_1 (v : V) : vFieldAddr Try.prog 101 1 v = faddr 1 v := by kernel_rfl
theorem fg101_1 (s : St) (v : V) : vField Try.prog s 101 1 v = fget 1 1 false v := by kernel_rfl
theorem fa101_2 (v : V) : vFieldAddr Try.prog 101 2 v = faddr 2 v := by kernel_rfl
theorem fg101_2 (s : St) (v : V) : vField Try.prog s 101 2 v = fget 2 1 false v := by kernel_rfl
theorem fa101_3 (v : V) : vFieldAddr Try.prog 101 3 v = faddr 3 v := by kernel_rfl
theorem fg101_3 (s : St) (v : V) : vField Try.prog s 101 3 v = fget 3 1 false v := by kernel_rfl
theorem fa101_4 (v : V) : vFieldAddr Try.prog 101 4 v = faddr 4 v := by kernel_rfl
theorem fg101_4 (s : St) (v : V) : vField Try.prog s 101 4 v = fget 4 1 false v := by kernel_rfl
theorem fa101_5 (v : V) : vFieldAddr Try.prog 101 5 v = faddr 5 v := by kernel_rfl
theorem fg101_5 (s : St) (v : V) : vField Try.prog s 101 5 v = fget 5 1 false v := by kernel_rfl
theorem fa101_6 (v : V) : vFieldAddr Try.prog 101 6 v = faddr 6 v := by kernel_rfl
theorem fg101_6 (s : St) (v : V) : vField Try.prog s 101 6 v = fget 6 1 false v := by kernel_rfl
theorem fa101_7 (v : V) : vFieldAddr Try.prog 101 7 v = faddr 7 v := by kernel_rfl
theorem fg101_7 (s : St) (v : V) : vField Try.prog s 101 7 v = fget 7 1 false v := by kernel_rfl
theorem fa101_8 (v : V) : vFieldAddr Try.prog 101 8 v = faddr 8 v := by kernel_rfl
theorem fg101_8 (s : St) (v : V) : vField Try.prog s 101 8 v = fget 8 1 false v := by kernel_rfl
theorem fa101_9 (v : V) : vFieldAddr Try.prog 101 9 v = faddr 9 v := by kernel_rfl
theorem fg101_9 (s : St) (v : V) : vField Try.prog s 101 9 v = fget 9 1 false v := by kernel_rfl
theorem fa101_10 (v : V) : vFieldAddr Try.prog 101 10 v = faddr 10 v := by kernel_rfl
theorem fg101_10 (s : St) (v : V) : vField Try.prog s 101 10 v = fget 10 1 false v := by kernel_rfl
theorem sz102 : szOf Try.prog 102 = 11 := by kernel_rfl
theorem ag102 : isAgg Try.prog 102 = true := by kernel_rfl
theorem ze102 : zero Try.prog 102 = some [V.int .u64 0, V.int .u64 0, V.int .u32 0, V.int .u8 0, V.int .u8 0, V.int .u8 0, V.int .u8 0, V.nilfn, V.nilp, V.int .i32 0, V.int .i32 0] := by kernel_rfl
theorem la102 : layOf Try.prog 102 = some [(12, 0, 1), (12, 1, 1), (94, 2, 1), (95, 3, 1), (5, 4, 1), (5, 5, 1), (96, 6, 1), (97, 7, 1), (98, 8, 1), (99, 9, 1), (100, 10, 1)] := by kernel_rfl
theorem bd102 (H : Hint) (d : Nat) (ty : TypeId) (ps : Array (Nat × Operand)) (s : St) : evV Try.prog H d ty (.build 102 ps) s = aggO (buildL Try.prog [(12, 0, 1), (12, 1, 1), (94, 2, 1), (95, 3, 1), (5, 4, 1), (5, 5, 1), (96, 6, 1), (97, 7, 1), (98, 8, 1), (99, 9, 1), (100, 10, 1)] s [V.int .u64 0, V.int .u64 0, V.int .u32 0, V.int .u8 0, V.int .u8 0, V.int .u8 0, V.int .u8 0, V.nilfn, V.nilp, V.int .i32 0, V.int .i32 0] ps.toList) := build_lay la102 ze102
theorem xb102 (H : Hint) (d : Nat) (ty : TypeId) (ps : Array (Nat × Operand)) (pos : String) (aft : Array Edge) (g : Option (Nat × Bool)) : isX Try.prog H { dst := some d, op := .build 102 ps, type := ty, pos := pos, after := aft, guard := g } = !memN d H.arrs := by kernel_rfl
theorem fa102_0 (v : V) : vFieldAddr Try.prog 102 0 v = faddr 0 v := by kernel_rfl
theorem fg102_0 (s : St) (v : V) : vField Try.prog s 102 0 v = fget 0 1 false v := by kernel_rfl
theorem fa102_1 (v : V) : vFieldAddr Try.prog 102 1 v = faddr 1 v := by kernel_rfl
theorem fg102_1 (s : St) (v : V) : vField Try.prog s 102 1 v = fget 1 1 false v := by kernel_rfl
theorem fa102_2 (v : V) : vFieldAddr Try.prog 102 2 v = faddr 2 v := by kernel_rfl
theorem fg102_2 (s : St) (v : V) : vField Try.prog s 102 2 v = fget 2 1 false v := by kernel_rfl
theorem fa102_3 (v : V) : vFieldAddr Try.prog 102 3 v = faddr 3 v := by kernel_rfl
theorem fg102_3 (s : St) (v : V) : vField Try.prog s 102 3 v = fget 3 1 false v := by kernel_rfl
theorem fa102_4 (v : V) : vFieldAddr Try.prog 102 4 v = faddr 4 v := by kernel_rfl
theorem fg102_4 (s : St) (v : V) : vField Try.prog s 102 4 v = fget 4 1 false v := by kernel_rfl
theorem fa102_5 (v : V) : vFieldAddr Try.prog 102 5 v = faddr 5 v := by kernel_rfl
theorem fg102_5 (s : St) (v : V) : vField Try.prog s 102 5 v = fget 5 1 false v := by kernel_rfl
theorem fa102_6 (v : V) : vFieldAddr Try.prog 102 6 v = faddr 6 v := by kernel_rfl
theorem fg102_6 (s : St) (v : V) : vField Try.prog s 102 6 v = fget 6 1 false v := by kernel_rfl
theorem fa102_7 (v : V) : vFieldAddr Try.prog 102 7 v = faddr 7 v := by kernel_rfl
theorem fg102_7 (s : St) (v : V) : vField Try.prog s 102 7 v = fget 7 1 false v := by kernel_rfl
theorem fa102_8 (v : V) : vFieldAddr Try.prog 102 8 v = faddr 8 v := by kernel_rfl
theorem fg102_8 (s : St) (v : V) : vField Try.prog s 102 8 v = fget 8 1 false v := by kernel_rfl
theorem fa102_9 (v : V) : vFieldAddr Try.prog 102 9 v = faddr 9 v := by kernel_rfl
theorem fg102_9 (s : St) (v : V) : vField Try.prog s 102 9 v = fget 9 1 false v := by kernel_rfl
theorem fa102_10 (v : V) : vFieldAddr Try.prog 102 10 v = faddr 10 v := by kernel_rfl
theorem fg102_10 (s : St) (v : V) : vField Try.prog s 102 10 v = fget 10 1 false v := by kernel_rfl
theorem ev3 (x y : Int) : eqV Try.prog 3 (.int .i64 x) (.int .i64 y) = some (x == y) := by kernel_rfl
theorem ev76 (x0 y0 x1 y1 x2 y2 x3 y3 : Int) : eqV Try.prog 76 (.agg [V.int .i64 x0, V.int .i64 x1, V.int .i64 x2, V.int .i64 x3]) (.agg [V.int .i64 y0, V.int .i64 y1, V.int .i64 y2, V.int .i64 y3]) = some ((x0 == y0) && ((x1 == y1) && ((x2 == y2) && ((x3 == y3) && true)))) := by kernel_rfl
theorem by3 : (Try.prog.bytesOf 3) = 8 := by kernel_rfl
theorem by4 : (Try.prog.bytesOf 4) = 1 := by kernel_rfl
theorem by5 : (Try.prog.bytesOf 5) = 1 := by kernel_rfl
theorem by9 : (Try.prog.bytesOf 9) = 16 := by kernel_rfl
theorem by52 : (Try.prog.bytesOf 52) = 24 := by kernel_rfl
attribute [go_sem] sz1 ag1 ze1 u2 sz2 ag2 ze2 u3 sz3 ag3 ze3 u4 sz4 ag4 ze4 ev4 u5 sz5 ag5 ze5 u6 sz6 ag6 ze6 sz7 ag7 ze7 fa7_0 fg7_0 fa7_1 fg7_1 fa7_2 fg7_2 fa7_3 fg7_3 sz8 ag8 ze8 fa8_0 fg8_0 fa8_1 fg8_1 fa8_2 fg8_2 fa8_3 fg8_3 u9 sz9 ag9 ze9 u10 sz10 ag10 ze10 u11 sz11 ag11 ze11 u12 sz12 ag12 ze12 sz13 ag13 ze13 fa13_0 fg13_0 fa13_1 fg13_1 sz14 ag14 ze14 fa14_0 fg14_0 fa14_1 fg14_1 u15 sz15 ag15 ze15 u16 sz16 ag16 ze16 u17 sz17 ag17 ze17 sz18 ag18 ze18 fa18_0 fg18_0 sz19 ag19 ze19 fa19_0 fg19_0 u21 sz21 ag21 ze21 u22 sz22 ag22 eo22 es22 gr22 df22 ze22 sz23 ag23 ze23 u24 sz24 ag24 eo24 es24 gr24 df24 ze24 u25 sz25 ag25 eo25 es25 gr25 df25 ze25 sz26 ag26 ze26 fa26_0 fg26_0 fa26_1 fg26_1 sz27 ag27 ze27 fa27_0 fg27_0 fa27_1 fg27_1 sz28 ag28 ze28 fa28_0 fg28_0 fa28_1 fg28_1 fa28_2 fg28_2 sz29 ag29 ze29 fa29_0 fg29_0 fa29_1 fg29_1 fa29_2 fg29_2 ev29 eg29 sz31 ag31 ze31 sz33 ag33 ze33 sz34 ag34 ze34 u35 sz35 ag35 eo35 es35 gr35 df35 ze35 sz36 ag36 ze36 sz38 ag38 ze38 sz40 ag40 ze40 sz41 ag41 ze41 sz42 ag42 ze42 sz44 ag44 ze44 sz45 ag45 ze45 u46 sz46 ag46 ze46 sz47 ag47 ze47 sz48 ag48 ze48 sz49 ag49 ze49 sz50 ag50 ze50 sz51 ag51 ze51 u52 sz52 ag52 eo52 es52 gr52 df52 ze52 sz53 ag53 ze53 sz54 ag54 ze54 sz56 ag56 ze56 sz57 ag57 ze57 sz58 ag58 ze58 sz59 ag59 ze59 sz60 ag60 ze60 sz61 ag61 ze61 sz62 ag62 ze62 fa62_0 fg62_0 fa62_1 fg62_1 fa62_2 fg62_2 sz63 ag63 ze63 fa63_0 fg63_0 fa63_1 fg63_1 fa63_2 fg63_2 sz64 ag64 ze64 sz65 ag65 ze65 sz66 ag66 ze66 sz67 ag67 ze67 sz68 ag68 ze68 sz69 ag69 ze69 sz70 ag70 ze70 sz71 ag71 ze71 sz72 ag72 ze72 sz73 ag73 ze73 u74 sz74 ag74 u75 sz75 ag75 u76 sz76 ag76 eo76 es76 ze76 sz77 ag77 ze77 sz78 ag78 ze78 sz80 ag80 ze80 sz81 ag81 ze81 sz82 ag82 ze82 sz83 ag83 ze83 sz84 ag84 ze84 sz85 ag85 ze85 u86 sz86 ag86 ze86 sz87 ag87 ze87 sz88 ag88 ze88 fa88_0 fg88_0 fa88_1 fg88_1 fa88_2 fg88_2 fa88_3 fg88_3 sz89 ag89 ze89 fa89_0 fg89_0 fa89_1 fg89_1 fa89_2 fg89_2 fa89_3 fg89_3 u90 sz90 ag90 eo90 es90 ze90 sz91 ag91 ze91 sz92 ag92 ze92 sz93 ag93 ze93 u94 sz94 ag94 ze94 u95 sz95 ag95 ze95 u96 sz96 ag96 ze96 sz97 ag97 ze97 u98 sz98 ag98 ze98 u99 sz99 ag99 ze99 u100 sz100 ag100 ze100 sz101 ag101 ze101 fa101_0 fg101_0 fa101_1 fg101_1 fa101_2 fg101_2 fa101_3 fg101_3 fa101_4 fg101_4 fa101_5 fg101_5 fa101_6 fg101_6 fa101_7 fg101_7 fa101_8 fg101_8 fa101_9 fg101_9 fa101_10 fg101_10 sz102 ag102 ze102 fa102_0 fg102_0 fa102_1 fg102_1 fa102_2 fg102_2 fa102_3 fg102_3 fa102_4 fg102_4 fa102_5 fg102_5 fa102_6 fg102_6 fa102_7 fg102_7 fa102_8 fg102_8 fa102_9 fg102_9 fa102_10 fg102_10 ev3 ev76 by3 by4 by5 by9 by52
attribute [go_sem high] bd7 xb7 bd8 xb8 bd13 xb13 bd14 xb14 bd18 xb18 bd19 xb19 bd26 xb26 bd27 xb27 bd28 xb28 bd29 xb29 bd62 xb62 bd63 xb63 xa76 bd88 xb88 bd89 xb89 xa90 bd101 xb101 bd102 xb102
end Go.Ev
namespace Go.Ev
open Go Go.Proofs
def hints : List (Nat × Hint) := [(3, ⟨[2, 22, 27, 33, 49, 54, 60, 110], [], [⟨0, [0, 3, 4, 5, 6, 9, 10, 11, 12, 13, 16], [3, 4, 5, 7, 10, 11, 12, 14]⟩], [], [], [], [31, 37], [], [], [], [], []⟩),
  (4, ⟨[2], [], [], [], [], [], [], [], [], [], [], []⟩),
  (5, ⟨[4], [4], [], [11], [(3, [0, 2, 1, 3, 4])], [], [], [], [], [], [], []⟩),
  (6, ⟨[27], [], [⟨0, [2, 3, 4, 6, 22, 23], [2, 3, 4, 6]⟩], [], [(7, [0, 2, 3, 4, 5, 6, 7, 8, 9, 10, 11, 12, 13, 14, 15, 16, 17, 18, 1, 19, 20, 21])], [49], [], [], [], [], [], []⟩),
  (7, ⟨[33], [6], [⟨0, [2, 3, 4, 6, 7], [2, 3, 4, 6, 439, 440]⟩, ⟨2, [2, 3, 4, 6, 7, 8], [2, 3, 4, 6, 439, 440]⟩], [], [], [21], [], [], [], [], [54], []⟩),
  (8, ⟨[], [], [⟨0, [2, 3, 5], [2, 3]⟩, ⟨2, [2, 3, 6], [2, 3]⟩], [], [], [], [], [], [], [], [], []⟩),
  (9, ⟨[2, 3, 15, 19], [], [⟨0, [0, 3, 4], []⟩], [], [], [], [], [], [], [], [], []⟩),
  (10, ⟨[4], [4], [], [12], [], [], [], [], [], [], [], []⟩),
  (13, ⟨[4, 7], [], [], [], [], [], [], [], [], [], [], []⟩),
  (14, ⟨[4], [], [], [], [], [], [], [], [], [], [], []⟩),
  (15, ⟨[3, 4], [4], [], [12], [], [], [], [], [], [], [], []⟩),
  (16, ⟨[4, 44], [], [⟨0, [1, 2, 5, 6], [2]⟩], [], [], [], [], [], [], [], [], []⟩),
  (17, ⟨[], [], [⟨0, [11, 12, 13], [1]⟩], [], [], [], [], [], [], [], [], []⟩),
  (18, ⟨[2], [], [], [], [], [], [], [], [], [], [], []⟩),
  (19, ⟨[2], [], [⟨0, [0, 3, 4], []⟩], [], [], [], [], [], [], [], [], []⟩),
  (21, ⟨[21, 32], [13, 2000003], [], [], [(4, [0, 1, 2, 4, 5, 6, 3, 7, 8])], [5], [], [], [], [], [], []⟩),
  (22, ⟨[2], [], [], [], [], [], [], [], [], [], [], []⟩),
  (23, ⟨[6, 25], [], [⟨0, [1, 2, 3, 7], [3]⟩], [], [], [], [], [], [], [], [], []⟩),
  (24, ⟨[5, 27, 33, 60, 72, 133, 167, 185, 210, 223, 236, 237, 242], [79, 99], [⟨0, [2, 4, 5, 6, 7], [2, 4, 38]⟩, ⟨2, [2, 4, 5, 6, 7, 54, 55, 56], [2, 4, 38]⟩, ⟨4, [2, 4, 5, 6, 12, 80, 81, 82], [2, 4, 38, 79]⟩, ⟨6, [2, 4, 5, 6, 12, 15], [2, 4, 38]⟩, ⟨8, [2, 4, 5, 6, 12, 15, 16, 17, 100, 101, 102], [2, 4, 38, 96, 99]⟩, ⟨10, [2, 4, 5, 6, 12, 15, 16, 17, 18, 20, 100, 101, 102, 116, 117, 118], [2, 4, 20, 38, 96, 99]⟩, ⟨12, [2, 4, 5, 6, 12, 25, 26, 27, 163, 164], [2, 4, 25, 38, 160]⟩, ⟨14, [2, 4, 5, 6, 12, 25, 26, 190, 191, 192], [2, 4, 25, 38, 160]⟩, ⟨16, [2, 4, 5, 6, 12, 25, 26, 32, 33, 190, 191, 192, 204, 205, 206], [2, 4, 25, 38, 160]⟩], [], [(61, [0, 2, 3, 4, 5, 6, 7, 8, 9, 10, 1, 11, 12, 13])], [220, 233], [], [], [], [238, 239], [], []⟩),
  (25, ⟨[], [], [⟨0, [1, 3, 4], [1]⟩, ⟨2, [1, 3, 4, 5], [1]⟩], [], [], [], [], [], [], [], [], []⟩),
  (26, ⟨[18, 29], [], [⟨0, [1, 2, 3, 4], [1, 2, 3]⟩], [], [(5, [0, 2, 3, 4, 5, 6, 7, 8, 9, 1, 10, 11, 12])], [8, 25], [], [], [], [26, 27], [], []⟩),
  (27, ⟨[6, 45], [], [⟨0, [2, 3, 8, 9], [3]⟩], [], [], [], [], [], [], [], [], []⟩),
  (28, ⟨[4, 7, 46, 50, 57, 70, 71, 75], [], [⟨0, [1, 2, 3, 4, 5, 6], [1, 2, 5]⟩, ⟨2, [1, 2, 3, 4, 5, 6, 7, 8], [1, 2, 5]⟩], [], [(15, [0, 2, 3, 4, 5, 6, 7, 8, 9, 10, 1, 11, 12, 13])], [55, 67], [], [], [], [72, 73], [], []⟩),
  (29, ⟨[], [], [⟨0, [0, 1, 5], []⟩], [], [], [], [], [], [], [], [], []⟩),
  (30, ⟨[2, 5, 29, 42], [], [⟨0, [0, 3, 4], []⟩, ⟨2, [0, 3, 4, 5, 6], []⟩, ⟨4, [0, 3, 4, 5, 6, 7], []⟩], [], [], [], [], [], [], [], [], []⟩),
  (31, ⟨[6], [], [], [], [], [], [], [], [], [], [], []⟩),
  (32, ⟨[4, 5, 16, 25, 28], [], [⟨0, [0, 1, 5, 6], []⟩], [], [], [], [], [], [], [], [], []⟩),
  (33, ⟨[3], [], [], [], [], [], [], [], [], [], [], []⟩),
  (34, ⟨[2], [], [], [], [], [], [], [], [], [], [], []⟩),
  (35, ⟨[2], [], [], [], [], [], [], [], [], [], [], []⟩),
  (36, ⟨[2], [], [], [], [], [], [], [], [], [], [], []⟩),
  (38, ⟨[4], [], [], [], [], [], [], [], [], [], [], []⟩),
  (39, ⟨[4], [], [], [], [], [], [], [], [], [], [], []⟩),
  (40, ⟨[8, 21, 32, 39, 40, 44], [], [⟨0, [0, 4, 5, 6, 7], [4, 6]⟩, ⟨2, [0, 4, 5, 6, 7, 8, 9], [4, 6]⟩], [23], [(1000006, [1, 3, 0, 2, 3, 1, 4, 5, 6, 7])], [37, 42], [], [], [], [41, 42], [], []⟩),
  (41, ⟨[4], [], [], [], [], [], [], [], [], [], [], []⟩),
  (42, ⟨[6], [], [], [], [], [], [], [], [], [], [], []⟩),
  (43, ⟨[4], [], [], [], [], [], [], [], [], [], [], []⟩),
  (44, ⟨[3], [], [], [], [], [], [], [], [], [], [], []⟩),
  (45, ⟨[4], [], [], [], [], [], [], [], [], [], [], []⟩),
  (46, ⟨[3], [], [], [], [], [], [], [], [], [], [], []⟩),
  (47, ⟨[2], [], [], [], [], [], [], [], [], [], [], []⟩),
  (48, ⟨[6], [], [], [], [], [], [], [], [], [], [], []⟩),
  (49, ⟨[2], [], [⟨0, [0, 3], []⟩], [], [], [], [], [], [], [], [], []⟩),
  (50, ⟨[2, 12], [], [⟨0, [0, 3], []⟩], [], [], [], [], [], [], [], [], []⟩),
  (51, ⟨[2, 59], [14, 34], [⟨0, [1, 3, 4, 5], [1, 14]⟩, ⟨2, [1, 3, 4, 6], [1]⟩, ⟨4, [1, 3, 4, 6, 7, 8], [1, 34]⟩, ⟨6, [1, 3, 4, 6, 7, 8, 9], [1, 34]⟩], [], [], [], [], [], [], [], [], []⟩),
  (52, ⟨[4, 18], [], [⟨0, [0, 1, 5], []⟩], [], [], [], [], [], [], [], [], []⟩),
  (53, ⟨[4, 22], [], [⟨0, [0, 5, 6, 7], []⟩], [], [], [], [], [], [], [], [], []⟩),
  (54, ⟨[], [], [⟨0, [0, 3], []⟩], [], [], [], [], [], [], [], [], []⟩),
  (55, ⟨[2, 57], [], [], [], [], [], [], [], [], [], [], []⟩),
  (56, ⟨[4, 17], [], [⟨0, [0, 1, 7, 8], []⟩], [], [], [], [], [], [], [], [], []⟩),
  (57, ⟨[4, 17], [], [⟨0, [0, 1, 7, 8], []⟩], [], [], [], [], [], [], [], [], []⟩),
  (58, ⟨[4], [], [], [], [], [], [], [], [], [], [], []⟩),
  (59, ⟨[8, 50], [], [⟨0, [1, 2, 3, 4, 9, 10], [4]⟩], [], [], [], [], [], [], [], [], []⟩),
  (60, ⟨[4], [], [], [], [], [], [], [], [], [], [], []⟩)]
noncomputable def EE : Env := { P := Try.prog, H := fun f => ((hints.find? (·.1 == f)).map (·.2)).getD ⟨[], [], [], [], [], [], [], [], [], [], [], []⟩, orc := fun g vs => if g = 58 then idxO vs else none }
theorem EP : EE.P = Try.prog := rfl
theorem o58 (s : ByteArray) (c : Int) : EE.orc 58 [.str s, .int .u8 c] = some (.int .i64 (idxB s c)) := by kernel_rfl
theorem h3 : EE.H 3 = ⟨[2, 22, 27, 33, 49, 54, 60, 110], [], [⟨0, [0, 3, 4, 5, 6, 9, 10, 11, 12, 13, 16], [3, 4, 5, 7, 10, 11, 12, 14]⟩], [], [], [], [31, 37], [], [], [], [], []⟩ := by kernel_rfl
theorem o3 (vs : List V) : EE.orc 3 vs = none := by kernel_rfl
theorem h4 : EE.H 4 = ⟨[2], [], [], [], [], [], [], [], [], [], [], []⟩ := by kernel_rfl
theorem o4 (vs : List V) : EE.orc 4 vs = none := by kernel_rfl
theorem h5 : EE.H 5 = ⟨[4], [4], [], [11], [(3, [0, 2, 1, 3, 4])], [], [], [], [], [], [], []⟩ := by kernel_rfl
theorem o5 (vs : List V) : EE.orc 5 vs = none := by kernel_rfl
theorem h6 : EE.H 6 = ⟨[27], [], [⟨0, [2, 3, 4, 6, 22, 23], [2, 3, 4, 6]⟩], [], [(7, [0, 2, 3, 4, 5, 6, 7, 8, 9, 10, 11, 12, 13, 14, 15, 16, 17, 18, 1, 19, 20, 21])], [49], [], [], [], [], [], []⟩ := by kernel_rfl
theorem o6 (vs : List V) : EE.orc 6 vs = none := by kernel_rfl
theorem h7 : EE.H 7 = ⟨[33], [6], [⟨0, [2, 3, 4, 6, 7], [2, 3, 4, 6, 439, 440]⟩, ⟨2, [2, 3, 4, 6, 7, 8], [2, 3, 4, 6, 439, 440]⟩], [], [], [21], [], [], [], [], [54], []⟩ := by kernel_rfl
theorem o7 (vs : List V) : EE.orc 7 vs = none := by kernel_rfl
theorem h8 : EE.H 8 = ⟨[], [], [⟨0, [2, 3, 5], [2, 3]⟩, ⟨2, [2, 3, 6], [2, 3]⟩], [], [], [], [], [], [], [], [], []⟩ := by kernel_rfl
theorem o8 (vs : List V) : EE.orc 8 vs = none := by kernel_rfl
theorem h9 : EE.H 9 = ⟨[2, 3, 15, 19], [], [⟨0, [0, 3, 4], []⟩], [], [], [], [], [], [], [], [], []⟩ := by kernel_rfl
theorem o9 (vs : List V) : EE.orc 9 vs = none := by kernel_rfl
theorem h10 : EE.H 10 = ⟨[4], [4], [], [12], [], [], [], [], [], [], [], []⟩ := by kernel_rfl
theorem o10 (vs : List V) : EE.orc 10 vs = none := by kernel_rfl
theorem h11 : EE.H 11 = ⟨[], [], [], [], [], [], [], [], [], [], [], []⟩ := by kernel_rfl
theorem o11 (vs : List V) : EE.orc 11 vs = none := by kernel_rfl
theorem h12 : EE.H 12 = ⟨[], [], [], [], [], [], [], [], [], [], [], []⟩ := by kernel_rfl
theorem o12 (vs : List V) : EE.orc 12 vs = none := by kernel_rfl
theorem h13 : EE.H 13 = ⟨[4, 7], [], [], [], [], [], [], [], [], [], [], []⟩ := by kernel_rfl
theorem o13 (vs : List V) : EE.orc 13 vs = none := by kernel_rfl
theorem h14 : EE.H 14 = ⟨[4], [], [], [], [], [], [], [], [], [], [], []⟩ := by kernel_rfl
theorem o14 (vs : List V) : EE.orc 14 vs = none := by kernel_rfl
theorem h15 : EE.H 15 = ⟨[3, 4], [4], [], [12], [], [], [], [], [], [], [], []⟩ := by kernel_rfl
theorem o15 (vs : List V) : EE.orc 15 vs = none := by kernel_rfl
theorem h16 : EE.H 16 = ⟨[4, 44], [], [⟨0, [1, 2, 5, 6], [2]⟩], [], [], [], [], [], [], [], [], []⟩ := by kernel_rfl
theorem o16 (vs : List V) : EE.orc 16 vs = none := by kernel_rfl
theorem h17 : EE.H 17 = ⟨[], [], [⟨0, [11, 12, 13], [1]⟩], [], [], [], [], [], [], [], [], []⟩ := by kernel_rfl
theorem o17 (vs : List V) : EE.orc 17 vs = none := by kernel_rfl
theorem h18 : EE.H 18 = ⟨[2], [], [], [], [], [], [], [], [], [], [], []⟩ := by kernel_rfl
theorem o18 (vs : List V) : EE.orc 18 vs = none := by kernel_rfl
theorem h19 : EE.H 19 = ⟨[2], [], [⟨0, [0, 3, 4], []⟩], [], [], [], [], [], [], [], [], []⟩ := by kernel_rfl
theorem o19 (vs : List V) : EE.orc 19 vs = none := by kernel_rfl
theorem h20 : EE.H 20 = ⟨[], [], [], [], [], [], [], [], [], [], [], []⟩ := by kernel_rfl
theorem o20 (vs : List V) : EE.orc 20 vs = none := by kernel_rfl
theorem h21 : EE.H 21 = ⟨[21, 32], [13, 2000003], [], [], [(4, [0, 1, 2, 4, 5, 6, 3, 7, 8])], [5], [], [], [], [], [], []⟩ := by kernel_rfl
theorem o21 (vs : List V) : EE.orc 21 vs = none := by kernel_rfl
theorem h22 : EE.H 22 = ⟨[2], [], [], [], [], [], [], [], [], [], [], []⟩ := by kernel_rfl
theorem o22 (vs : List V) : EE.orc 22 vs = none := by kernel_rfl
theorem h23 : EE.H 23 = ⟨[6, 25], [], [⟨0, [1, 2, 3, 7], [3]⟩], [], [], [], [], [], [], [], [], []⟩ := by kernel_rfl
theorem o23 (vs : List V) : EE.orc 23 vs = none := by kernel_rfl
theorem h24 : EE.H 24 = ⟨[5, 27, 33, 60, 72, 133, 167, 185, 210, 223, 236, 237, 242], [79, 99], [⟨0, [2, 4, 5, 6, 7], [2, 4, 38]⟩, ⟨2, [2, 4, 5, 6, 7, 54, 55, 56], [2, 4, 38]⟩, ⟨4, [2, 4, 5, 6, 12, 80, 81, 82], [2, 4, 38, 79]⟩, ⟨6, [2, 4, 5, 6, 12, 15], [2, 4, 38]⟩, ⟨8, [2, 4, 5, 6, 12, 15, 16, 17, 100, 101, 102], [2, 4, 38, 96, 99]⟩, ⟨10, [2, 4, 5, 6, 12, 15, 16, 17, 18, 20, 100, 101, 102, 116, 117, 118], [2, 4, 20, 38, 96, 99]⟩, ⟨12, [2, 4, 5, 6, 12, 25, 26, 27, 163, 164], [2, 4, 25, 38, 160]⟩, ⟨14, [2, 4, 5, 6, 12, 25, 26, 190, 191, 192], [2, 4, 25, 38, 160]⟩, ⟨16, [2, 4, 5, 6, 12, 25, 26, 32, 33, 190, 191, 192, 204, 205, 206], [2, 4, 25, 38, 160]⟩], [], [(61, [0, 2, 3, 4, 5, 6, 7, 8, 9, 10, 1, 11, 12, 13])], [220, 233], [], [], [], [238, 239], [], []⟩ := by kernel_rfl
theorem o24 (vs : List V) : EE.orc 24 vs = none := by kernel_rfl
theorem h25 : EE.H 25 = ⟨[], [], [⟨0, [1, 3, 4], [1]⟩, ⟨2, [1, 3, 4, 5], [1]⟩], [], [], [], [], [], [], [], [], []⟩ := by kernel_rfl
theorem o25 (vs : List V) : EE.orc 25 vs = none := by kernel_rfl
theorem h26 : EE.H 26 = ⟨[18, 29], [], [⟨0, [1, 2, 3, 4], [1, 2, 3]⟩], [], [(5, [0, 2, 3, 4, 5, 6, 7, 8, 9, 1, 10, 11, 12])], [8, 25], [], [], [], [26, 27], [], []⟩ := by kernel_rfl
theorem o26 (vs : List V) : EE.orc 26 vs = none := by kernel_rfl
theorem h27 : EE.H 27 = ⟨[6, 45], [], [⟨0, [2, 3, 8, 9], [3]⟩], [], [], [], [], [], [], [], [], []⟩ := by kernel_rfl
theorem o27 (vs : List V) : EE.orc 27 vs = none := by kernel_rfl
theorem h28 : EE.H 28 = ⟨[4, 7, 46, 50, 57, 70, 71, 75], [], [⟨0, [1, 2, 3, 4, 5, 6], [1, 2, 5]⟩, ⟨2, [1, 2, 3, 4, 5, 6, 7, 8], [1, 2, 5]⟩], [], [(15, [0, 2, 3, 4, 5, 6, 7, 8, 9, 10, 1, 11, 12, 13])], [55, 67], [], [], [], [72, 73], [], []⟩ := by kernel_rfl
theorem o28 (vs : List V) : EE.orc 28 vs = none := by kernel_rfl
theorem h29 : EE.H 29 = ⟨[], [], [⟨0, [0, 1, 5], []⟩], [], [], [], [], [], [], [], [], []⟩ := by kernel_rfl
theorem o29 (vs : List V) : EE.orc 29 vs = none := by kernel_rfl
theorem h30 : EE.H 30 = ⟨[2, 5, 29, 42], [], [⟨0, [0, 3, 4], []⟩, ⟨2, [0, 3, 4, 5, 6], []⟩, ⟨4, [0, 3, 4, 5, 6, 7], []⟩], [], [], [], [], [], [], [], [], []⟩ := by kernel_rfl
theorem o30 (vs : List V) : EE.orc 30 vs = none := by kernel_rfl
theorem h31 : EE.H 31 = ⟨[6], [], [], [], [], [], [], [], [], [], [], []⟩ := by kernel_rfl
theorem o31 (vs : List V) : EE.orc 31 vs = none := by kernel_rfl
theorem h32 : EE.H 32 = ⟨[4, 5, 16, 25, 28], [], [⟨0, [0, 1, 5, 6], []⟩], [], [], [], [], [], [], [], [], []⟩ := by kernel_rfl
theorem o32 (vs : List V) : EE.orc 32 vs = none := by kernel_rfl
theorem h33 : EE.H 33 = ⟨[3], [], [], [], [], [], [], [], [], [], [], []⟩ := by kernel_rfl
theorem o33 (vs : List V) : EE.orc 33 vs = none := by kernel_rfl
theorem h34 : EE.H 34 = ⟨[2], [], [], [], [], [], [], [], [], [], [], []⟩ := by kernel_rfl
theorem o34 (vs : List V) : EE.orc 34 vs = none := by kernel_rfl
theorem h35 : EE.H 35 = ⟨[2], [], [], [], [], [], [], [], [], [], [], []⟩ := by kernel_rfl
theorem o35 (vs : List V) : EE.orc 35 vs = none := by kernel_rfl
theorem h36 : EE.H 36 = ⟨[2], [], [], [], [], [], [], [], [], [], [], []⟩ := by kernel_rfl
theorem o36 (vs : List V) : EE.orc 36 vs = none := by kernel_rfl
theorem h37 : EE.H 37 = ⟨[], [], [], [], [], [], [], [], [], [], [], []⟩ := by kernel_rfl
theorem o37 (vs : List V) : EE.orc 37 vs = none := by kernel_rfl
theorem h38 : EE.H 38 = ⟨[4], [], [], [], [], [], [], [], [], [], [], []⟩ := by kernel_rfl
theorem o38 (vs : List V) : EE.orc 38 vs = none := by kernel_rfl
theorem h39 : EE.H 39 = ⟨[4], [], [], [], [], [], [], [], [], [], [], []⟩ := by kernel_rfl
theorem o39 (vs : List V) : EE.orc 39 vs = none := by kernel_rfl
theorem h40 : EE.H 40 = ⟨[8, 21, 32, 39, 40, 44], [], [⟨0, [0, 4, 5, 6, 7], [4, 6]⟩, ⟨2, [0, 4, 5, 6, 7, 8, 9], [4, 6]⟩], [23], [(1000006, [1, 3, 0, 2, 3, 1, 4, 5, 6, 7])], [37, 42], [], [], [], [41, 42], [], []⟩ := by kernel_rfl
theorem o40 (vs : List V) : EE.orc 40 vs = none := by kernel_rfl
theorem h41 : EE.H 41 = ⟨[4], [], [], [], [], [], [], [], [], [], [], []⟩ := by kernel_rfl
theorem o41 (vs : List V) : EE.orc 41 vs = none := by kernel_rfl
theorem h42 : EE.H 42 = ⟨[6], [], [], [], [], [], [], [], [], [], [], []⟩ := by kernel_rfl
theorem o42 (vs : List V) : EE.orc 42 vs = none := by kernel_rfl
theorem h43 : EE.H 43 = ⟨[4], [], [], [], [], [], [], [], [], [], [], []⟩ := by kernel_rfl
theorem o43 (vs : List V) : EE.orc 43 vs = none := by kernel_rfl
theorem h44 : EE.H 44 = ⟨[3], [], [], [], [], [], [], [], [], [], [], []⟩ := by kernel_rfl
theorem o44 (vs : List V) : EE.orc 44 vs = none := by kernel_rfl
theorem h45 : EE.H 45 = ⟨[4], [], [], [], [], [], [], [], [], [], [], []⟩ := by kernel_rfl
theorem o45 (vs : List V) : EE.orc 45 vs = none := by kernel_rfl
theorem h46 : EE.H 46 = ⟨[3], [], [], [], [], [], [], [], [], [], [], []⟩ := by kernel_rfl
theorem o46 (vs : List V) : EE.orc 46 vs = none := by kernel_rfl
theorem h47 : EE.H 47 = ⟨[2], [], [], [], [], [], [], [], [], [], [], []⟩ := by kernel_rfl
theorem o47 (vs : List V) : EE.orc 47 vs = none := by kernel_rfl
theorem h48 : EE.H 48 = ⟨[6], [], [], [], [], [], [], [], [], [], [], []⟩ := by kernel_rfl
theorem o48 (vs : List V) : EE.orc 48 vs = none := by kernel_rfl
theorem h49 : EE.H 49 = ⟨[2], [], [⟨0, [0, 3], []⟩], [], [], [], [], [], [], [], [], []⟩ := by kernel_rfl
theorem o49 (vs : List V) : EE.orc 49 vs = none := by kernel_rfl
theorem h50 : EE.H 50 = ⟨[2, 12], [], [⟨0, [0, 3], []⟩], [], [], [], [], [], [], [], [], []⟩ := by kernel_rfl
theorem o50 (vs : List V) : EE.orc 50 vs = none := by kernel_rfl
theorem h51 : EE.H 51 = ⟨[2, 59], [14, 34], [⟨0, [1, 3, 4, 5], [1, 14]⟩, ⟨2, [1, 3, 4, 6], [1]⟩, ⟨4, [1, 3, 4, 6, 7, 8], [1, 34]⟩, ⟨6, [1, 3, 4, 6, 7, 8, 9], [1, 34]⟩], [], [], [], [], [], [], [], [], []⟩ := by kernel_rfl
theorem o51 (vs : List V) : EE.orc 51 vs = none := by kernel_rfl
theorem h52 : EE.H 52 = ⟨[4, 18], [], [⟨0, [0, 1, 5], []⟩], [], [], [], [], [], [], [], [], []⟩ := by kernel_rfl
theorem o52 (vs : List V) : EE.orc 52 vs = none := by kernel_rfl
theorem h53 : EE.H 53 = ⟨[4, 22], [], [⟨0, [0, 5, 6, 7], []⟩], [], [], [], [], [], [], [], [], []⟩ := by kernel_rfl
theorem o53 (vs : List V) : EE.orc 53 vs = none := by kernel_rfl
theorem h54 : EE.H 54 = ⟨[], [], [⟨0, [0, 3], []⟩], [], [], [], [], [], [], [], [], []⟩ := by kernel_rfl
theorem o54 (vs : List V) : EE.orc 54 vs = none := by kernel_rfl
theorem h55 : EE.H 55 = ⟨[2, 57], [], [], [], [], [], [], [], [], [], [], []⟩ := by kernel_rfl
theorem o55 (vs : List V) : EE.orc 55 vs = none := by kernel_rfl
theorem h56 : EE.H 56 = ⟨[4, 17], [], [⟨0, [0, 1, 7, 8], []⟩], [], [], [], [], [], [], [], [], []⟩ := by kernel_rfl
theorem o56 (vs : List V) : EE.orc 56 vs = none := by kernel_rfl
theorem h57 : EE.H 57 = ⟨[4, 17], [], [⟨0, [0, 1, 7, 8], []⟩], [], [], [], [], [], [], [], [], []⟩ := by kernel_rfl
theorem o57 (vs : List V) : EE.orc 57 vs = none := by kernel_rfl
theorem h58 : EE.H 58 = ⟨[4], [], [], [], [], [], [], [], [], [], [], []⟩ := by kernel_rfl
theorem h59 : EE.H 59 = ⟨[8, 50], [], [⟨0, [1, 2, 3, 4, 9, 10], [4]⟩], [], [], [], [], [], [], [], [], []⟩ := by kernel_rfl
theorem o59 (vs : List V) : EE.orc 59 vs = none := by kernel_rfl
theorem h60 : EE.H 60 = ⟨[4], [], [], [], [], [], [], [], [], [], [], []⟩ := by kernel_rfl
theorem o60 (vs : List V) : EE.orc 60 vs = none := by kernel_rfl
attribute [go_sem] EP h3 o3 h4 o4 h5 o5 h6 o6 h7 o7 h8 o8 h9 o9 h10 o10 h11 o11 h12 o12 h13 o13 h14 o14 h15 o15 h16 o16 h17 o17 h18 o18 h19 o19 h20 o20 h21 o21 h22 o22 h23 o23 h24 o24 h25 o25 h26 o26 h27 o27 h28 o28 h29 o29 h30 o30 h31 o31 h32 o32 h33 o33 h34 o34 h35 o35 h36 o36 h37 o37 h38 o38 h39 o39 h40 o40 h41 o41 h42 o42 h43 o43 h44 o44 h45 o45 h46 o46 h47 o47 h48 o48 h49 o49 h50 o50 h51 o51 h52 o52 h53 o53 h54 o54 h55 o55 h56 o56 h57 o57 h58 o58 h59 o59 h60 o60
end Go.Ev
