/- Facts on the seat's types, printed by a program. -/
import Derived.Test.YtkffkacjmhmegaaProg
import Derived.Test.YtkffkacjmhmegaaEvM
set_option linter.unusedVariables false
set_option linter.unusedSimpArgs false
namespace Go.Ev
open Go Go.Proofs
set_option maxRecDepth 10000
theorem sz1 : szOf Try.prog 1 = 1 := by kernel_rfl
theorem ag1 : isAgg Try.prog 1 = false := by kernel_rfl
theorem ze1 : zero Try.prog 1 = some [V.nilfn] := by kernel_rfl
theorem u2 : Try.prog.underlying 2 = some (.int .i64) := by kernel_rfl
theorem sz2 : szOf Try.prog 2 = 1 := by kernel_rfl
theorem ag2 : isAgg Try.prog 2 = false := by kernel_rfl
theorem ze2 : zero Try.prog 2 = some [V.int .i64 0] := by kernel_rfl
theorem u3 : Try.prog.underlying 3 = some (.int .i64) := by kernel_rfl
theorem sz3 : szOf Try.prog 3 = 1 := by kernel_rfl
theorem ag3 : isAgg Try.prog 3 = false := by kernel_rfl
theorem ze3 : zero Try.prog 3 = some [V.int .i64 0] := by kernel_rfl
theorem u4 : Try.prog.underlying 4 = some .bool := by kernel_rfl
theorem sz4 : szOf Try.prog 4 = 1 := by kernel_rfl
theorem ag4 : isAgg Try.prog 4 = false := by kernel_rfl
theorem ze4 : zero Try.prog 4 = some [V.bool false] := by kernel_rfl
theorem ev4 (x y : Bool) : eqV Try.prog 4 (.bool x) (.bool y) = some (x == y) := by kernel_rfl
theorem u5 : Try.prog.underlying 5 = some (.int .u8) := by kernel_rfl
theorem sz5 : szOf Try.prog 5 = 1 := by kernel_rfl
theorem ag5 : isAgg Try.prog 5 = false := by kernel_rfl
theorem ze5 : zero Try.prog 5 = some [V.int .u8 0] := by kernel_rfl
theorem u6 : Try.prog.underlying 6 = some (.int .u8) := by kernel_rfl
theorem sz6 : szOf Try.prog 6 = 1 := by kernel_rfl
theorem ag6 : isAgg Try.prog 6 = false := by kernel_rfl
theorem ze6 : zero Try.prog 6 = some [V.int .u8 0] := by kernel_rfl
theorem sz7 : szOf Try.prog 7 = 4 := by kernel_rfl
theorem ag7 : isAgg Try.prog 7 = true := by kernel_rfl
theorem ze7 : zero Try.prog 7 = some [V.int .i64 0, V.int .i64 0, V.bool false, V.int .u8 0] := by kernel_rfl
theorem la7 : layOf Try.prog 7 = some [(2, 0, 1), (3, 1, 1), (4, 2, 1), (6, 3, 1)] := by kernel_rfl
theorem bd7 (H : Hint) (d : Nat) (ty : TypeId) (ps : Array (Nat × Operand)) (s : St) : evV Try.prog H d ty (.build 7 ps) s = aggO (buildL Try.prog [(2, 0, 1), (3, 1, 1), (4, 2, 1), (6, 3, 1)] s [V.int .i64 0, V.int .i64 0, V.bool false, V.int .u8 0] ps.toList) := build_lay la7 ze7
theorem xb7 (H : Hint) (d : Nat) (ty : TypeId) (ps : Array (Nat × Operand)) (pos : String) (aft : Array Edge) (g : Option (Nat × Bool)) : isX Try.prog H { dst := some d, op := .build 7 ps, type := ty, pos := pos, after := aft, guard := g } = !memN d H.arrs := by kernel_rfl
theorem fa7_0 (v : V) : vFieldAddr Try.prog 7 0 v = faddr 0 v := by kernel_rfl
theorem fg7_0 (s : St) (v : V) : vField Try.prog s 7 0 v = fget 0 1 false v := by kernel_rfl
theorem fa7_1 (v : V) : vFieldAddr Try.prog 7 1 v = faddr 1 v := by kernel_rfl
theorem fg7_1 (s : St) (v : V) : vField Try.prog s 7 1 v = fget 1 1 false v := by kernel_rfl
theorem fa7_2 (v : V) : vFieldAddr Try.prog 7 2 v = faddr 2 v := by kernel_rfl
theorem fg7_2 (s : St) (v : V) : vField Try.prog s 7 2 v = fget 2 1 false v := by kernel_rfl
theorem fa7_3 (v : V) : vFieldAddr Try.prog 7 3 v = faddr 3 v := by kernel_rfl
theorem fg7_3 (s : St) (v : V) : vField Try.prog s 7 3 v = fget 3 1 false v := by kernel_rfl
theorem sz8 : szOf Try.prog 8 = 4 := by kernel_rfl
theorem ag8 : isAgg Try.prog 8 = true := by kernel_rfl
theorem ze8 : zero Try.prog 8 = some [V.int .i64 0, V.int .i64 0, V.bool false, V.int .u8 0] := by kernel_rfl
theorem la8 : layOf Try.prog 8 = some [(2, 0, 1), (3, 1, 1), (4, 2, 1), (6, 3, 1)] := by kernel_rfl
theorem bd8 (H : Hint) (d : Nat) (ty : TypeId) (ps : Array (Nat × Operand)) (s : St) : evV Try.prog H d ty (.build 8 ps) s = aggO (buildL Try.prog [(2, 0, 1), (3, 1, 1), (4, 2, 1), (6, 3, 1)] s [V.int .i64 0, V.int .i64 0, V.bool false, V.int .u8 0] ps.toList) := build_lay la8 ze8
theorem xb8 (H : Hint) (d : Nat) (ty : TypeId) (ps : Array (Nat × Operand)) (pos : String) (aft : Array Edge) (g : Option (Nat × Bool)) : isX Try.prog H { dst := some d, op := .build 8 ps, type := ty, pos := pos, after := aft, guard := g } = !memN d H.arrs := by kernel_rfl
theorem fa8_0 (v : V) : vFieldAddr Try.prog 8 0 v = faddr 0 v := by kernel_rfl
theorem fg8_0 (s : St) (v : V) : vField Try.prog s 8 0 v = fget 0 1 false v := by kernel_rfl
theorem fa8_1 (v : V) : vFieldAddr Try.prog 8 1 v = faddr 1 v := by kernel_rfl
theorem fg8_1 (s : St) (v : V) : vField Try.prog s 8 1 v = fget 1 1 false v := by kernel_rfl
theorem fa8_2 (v : V) : vFieldAddr Try.prog 8 2 v = faddr 2 v := by kernel_rfl
theorem fg8_2 (s : St) (v : V) : vField Try.prog s 8 2 v = fget 2 1 false v := by kernel_rfl
theorem fa8_3 (v : V) : vFieldAddr Try.prog 8 3 v = faddr 3 v := by kernel_rfl
theorem fg8_3 (s : St) (v : V) : vField Try.prog s 8 3 v = fget 3 1 false v := by kernel_rfl
theorem u9 : Try.prog.underlying 9 = some .string := by kernel_rfl
theorem sz9 : szOf Try.prog 9 = 1 := by kernel_rfl
theorem ag9 : isAgg Try.prog 9 = false := by kernel_rfl
theorem ze9 : zero Try.prog 9 = some [V.str ⟨#[]⟩] := by kernel_rfl
theorem u10 : Try.prog.underlying 10 = some .string := by kernel_rfl
theorem sz10 : szOf Try.prog 10 = 1 := by kernel_rfl
theorem ag10 : isAgg Try.prog 10 = false := by kernel_rfl
theorem ze10 : zero Try.prog 10 = some [V.str ⟨#[]⟩] := by kernel_rfl
theorem u11 : Try.prog.underlying 11 = some .string := by kernel_rfl
theorem sz11 : szOf Try.prog 11 = 1 := by kernel_rfl
theorem ag11 : isAgg Try.prog 11 = false := by kernel_rfl
theorem ze11 : zero Try.prog 11 = some [V.str ⟨#[]⟩] := by kernel_rfl
theorem u12 : Try.prog.underlying 12 = some (.int .u64) := by kernel_rfl
theorem sz12 : szOf Try.prog 12 = 1 := by kernel_rfl
theorem ag12 : isAgg Try.prog 12 = false := by kernel_rfl
theorem ze12 : zero Try.prog 12 = some [V.int .u64 0] := by kernel_rfl
theorem sz13 : szOf Try.prog 13 = 2 := by kernel_rfl
theorem ag13 : isAgg Try.prog 13 = true := by kernel_rfl
theorem ze13 : zero Try.prog 13 = some [V.str ⟨#[]⟩, V.int .u64 0] := by kernel_rfl
theorem la13 : layOf Try.prog 13 = some [(9, 0, 1), (12, 1, 1)] := by kernel_rfl
theorem bd13 (H : Hint) (d : Nat) (ty : TypeId) (ps : Array (Nat × Operand)) (s : St) : evV Try.prog H d ty (.build 13 ps) s = aggO (buildL Try.prog [(9, 0, 1), (12, 1, 1)] s [V.str ⟨#[]⟩, V.int .u64 0] ps.toList) := build_lay la13 ze13
theorem xb13 (H : Hint) (d : Nat) (ty : TypeId) (ps : Array (Nat × Operand)) (pos : String) (aft : Array Edge) (g : Option (Nat × Bool)) : isX Try.prog H { dst := some d, op := .build 13 ps, type := ty, pos := pos, after := aft, guard := g } = !memN d H.arrs := by kernel_rfl
theorem fa13_0 (v : V) : vFieldAddr Try.prog 13 0 v = faddr 0 v := by kernel_rfl
theorem fg13_0 (s : St) (v : V) : vField Try.prog s 13 0 v = fget 0 1 false v := by kernel_rfl
theorem fa13_1 (v : V) : vFieldAddr Try.prog 13 1 v = faddr 1 v := by kernel_rfl
theorem fg13_1 (s : St) (v : V) : vField Try.prog s 13 1 v = fget 1 1 false v := by kernel_rfl
theorem sz14 : szOf Try.prog 14 = 2 := by kernel_rfl
theorem ag14 : isAgg Try.prog 14 = true := by kernel_rfl
theorem ze14 : zero Try.prog 14 = some [V.str ⟨#[]⟩, V.int .u64 0] := by kernel_rfl
theorem la14 : layOf Try.prog 14 = some [(9, 0, 1), (12, 1, 1)] := by kernel_rfl
theorem bd14 (H : Hint) (d : Nat) (ty : TypeId) (ps : Array (Nat × Operand)) (s : St) : evV Try.prog H d ty (.build 14 ps) s = aggO (buildL Try.prog [(9, 0, 1), (12, 1, 1)] s [V.str ⟨#[]⟩, V.int .u64 0] ps.toList) := build_lay la14 ze14
theorem xb14 (H : Hint) (d : Nat) (ty : TypeId) (ps : Array (Nat × Operand)) (pos : String) (aft : Array Edge) (g : Option (Nat × Bool)) : isX Try.prog H { dst := some d, op := .build 14 ps, type := ty, pos := pos, after := aft, guard := g } = !memN d H.arrs := by kernel_rfl
theorem fa14_0 (v : V) : vFieldAddr Try.prog 14 0 v = faddr 0 v := by kernel_rfl
theorem fg14_0 (s : St) (v : V) : vField Try.prog s 14 0 v = fget 0 1 false v := by kernel_rfl
theorem fa14_1 (v : V) : vFieldAddr Try.prog 14 1 v = faddr 1 v := by kernel_rfl
theorem fg14_1 (s : St) (v : V) : vField Try.prog s 14 1 v = fget 1 1 false v := by kernel_rfl
theorem u15 : Try.prog.underlying 15 = some (.pointer 106) := by kernel_rfl
theorem sz15 : szOf Try.prog 15 = 1 := by kernel_rfl
theorem ag15 : isAgg Try.prog 15 = false := by kernel_rfl
theorem ze15 : zero Try.prog 15 = some [V.nilp] := by kernel_rfl
theorem u16 : Try.prog.underlying 16 = some (.pointer 109) := by kernel_rfl
theorem sz16 : szOf Try.prog 16 = 1 := by kernel_rfl
theorem ag16 : isAgg Try.prog 16 = false := by kernel_rfl
theorem ze16 : zero Try.prog 16 = some [V.nilp] := by kernel_rfl
theorem u17 : Try.prog.underlying 17 = some (.pointer 119) := by kernel_rfl
theorem sz17 : szOf Try.prog 17 = 1 := by kernel_rfl
theorem ag17 : isAgg Try.prog 17 = false := by kernel_rfl
theorem ze17 : zero Try.prog 17 = some [V.nilp] := by kernel_rfl
theorem sz18 : szOf Try.prog 18 = 1 := by kernel_rfl
theorem ag18 : isAgg Try.prog 18 = true := by kernel_rfl
theorem ze18 : zero Try.prog 18 = some [V.nilp] := by kernel_rfl
theorem la18 : layOf Try.prog 18 = some [(17, 0, 1)] := by kernel_rfl
theorem bd18 (H : Hint) (d : Nat) (ty : TypeId) (ps : Array (Nat × Operand)) (s : St) : evV Try.prog H d ty (.build 18 ps) s = aggO (buildL Try.prog [(17, 0, 1)] s [V.nilp] ps.toList) := build_lay la18 ze18
theorem xb18 (H : Hint) (d : Nat) (ty : TypeId) (ps : Array (Nat × Operand)) (pos : String) (aft : Array Edge) (g : Option (Nat × Bool)) : isX Try.prog H { dst := some d, op := .build 18 ps, type := ty, pos := pos, after := aft, guard := g } = !memN d H.arrs := by kernel_rfl
theorem fa18_0 (v : V) : vFieldAddr Try.prog 18 0 v = faddr 0 v := by kernel_rfl
theorem fg18_0 (s : St) (v : V) : vField Try.prog s 18 0 v = fget 0 1 false v := by kernel_rfl
theorem sz19 : szOf Try.prog 19 = 1 := by kernel_rfl
theorem ag19 : isAgg Try.prog 19 = true := by kernel_rfl
theorem ze19 : zero Try.prog 19 = some [V.nilp] := by kernel_rfl
theorem la19 : layOf Try.prog 19 = some [(17, 0, 1)] := by kernel_rfl
theorem bd19 (H : Hint) (d : Nat) (ty : TypeId) (ps : Array (Nat × Operand)) (s : St) : evV Try.prog H d ty (.build 19 ps) s = aggO (buildL Try.prog [(17, 0, 1)] s [V.nilp] ps.toList) := build_lay la19 ze19
theorem xb19 (H : Hint) (d : Nat) (ty : TypeId) (ps : Array (Nat × Operand)) (pos : String) (aft : Array Edge) (g : Option (Nat × Bool)) : isX Try.prog H { dst := some d, op := .build 19 ps, type := ty, pos := pos, after := aft, guard := g } = !memN d H.arrs := by kernel_rfl
theorem fa19_0 (v : V) : vFieldAddr Try.prog 19 0 v = faddr 0 v := by kernel_rfl
theorem fg19_0 (s : St) (v : V) : vField Try.prog s 19 0 v = fget 0 1 false v := by kernel_rfl
theorem u21 : Try.prog.underlying 21 = some (.int .i32) := by kernel_rfl
theorem sz21 : szOf Try.prog 21 = 1 := by kernel_rfl
theorem ag21 : isAgg Try.prog 21 = false := by kernel_rfl
theorem ze21 : zero Try.prog 21 = some [V.int .i32 0] := by kernel_rfl
theorem u22 : Try.prog.underlying 22 = some (.slice 5) := by kernel_rfl
theorem sz22 : szOf Try.prog 22 = 1 := by kernel_rfl
theorem ag22 : isAgg Try.prog 22 = false := by kernel_rfl
theorem eo22 : elemOf Try.prog 22 = 5 := by kernel_rfl
theorem es22 : elemSz Try.prog 22 = 1 := by kernel_rfl
theorem gr22 : growB Try.prog 22 = true := by kernel_rfl
theorem df22 : dflt Try.prog 22 = V.int .u8 0 := by kernel_rfl
theorem ze22 : zero Try.prog 22 = some [V.slc true 1 []] := by kernel_rfl
theorem sz23 : szOf Try.prog 23 = 1 := by kernel_rfl
theorem ag23 : isAgg Try.prog 23 = false := by kernel_rfl
theorem ze23 : zero Try.prog 23 = some [V.nilfn] := by kernel_rfl
theorem sz24 : szOf Try.prog 24 = 2 := by kernel_rfl
theorem ag24 : isAgg Try.prog 24 = true := by kernel_rfl
theorem ze24 : zero Try.prog 24 = some [V.str ⟨#[]⟩, V.str ⟨#[]⟩] := by kernel_rfl
theorem la24 : layOf Try.prog 24 = some [(9, 0, 1), (9, 1, 1)] := by kernel_rfl
theorem bd24 (H : Hint) (d : Nat) (ty : TypeId) (ps : Array (Nat × Operand)) (s : St) : evV Try.prog H d ty (.build 24 ps) s = aggO (buildL Try.prog [(9, 0, 1), (9, 1, 1)] s [V.str ⟨#[]⟩, V.str ⟨#[]⟩] ps.toList) := build_lay la24 ze24
theorem xb24 (H : Hint) (d : Nat) (ty : TypeId) (ps : Array (Nat × Operand)) (pos : String) (aft : Array Edge) (g : Option (Nat × Bool)) : isX Try.prog H { dst := some d, op := .build 24 ps, type := ty, pos := pos, after := aft, guard := g } = !memN d H.arrs := by kernel_rfl
theorem fa24_0 (v : V) : vFieldAddr Try.prog 24 0 v = faddr 0 v := by kernel_rfl
theorem fg24_0 (s : St) (v : V) : vField Try.prog s 24 0 v = fget 0 1 false v := by kernel_rfl
theorem fa24_1 (v : V) : vFieldAddr Try.prog 24 1 v = faddr 1 v := by kernel_rfl
theorem fg24_1 (s : St) (v : V) : vField Try.prog s 24 1 v = fget 1 1 false v := by kernel_rfl
theorem sz25 : szOf Try.prog 25 = 2 := by kernel_rfl
theorem ag25 : isAgg Try.prog 25 = true := by kernel_rfl
theorem ze25 : zero Try.prog 25 = some [V.str ⟨#[]⟩, V.str ⟨#[]⟩] := by kernel_rfl
theorem la25 : layOf Try.prog 25 = some [(9, 0, 1), (9, 1, 1)] := by kernel_rfl
theorem bd25 (H : Hint) (d : Nat) (ty : TypeId) (ps : Array (Nat × Operand)) (s : St) : evV Try.prog H d ty (.build 25 ps) s = aggO (buildL Try.prog [(9, 0, 1), (9, 1, 1)] s [V.str ⟨#[]⟩, V.str ⟨#[]⟩] ps.toList) := build_lay la25 ze25
theorem xb25 (H : Hint) (d : Nat) (ty : TypeId) (ps : Array (Nat × Operand)) (pos : String) (aft : Array Edge) (g : Option (Nat × Bool)) : isX Try.prog H { dst := some d, op := .build 25 ps, type := ty, pos := pos, after := aft, guard := g } = !memN d H.arrs := by kernel_rfl
theorem fa25_0 (v : V) : vFieldAddr Try.prog 25 0 v = faddr 0 v := by kernel_rfl
theorem fg25_0 (s : St) (v : V) : vField Try.prog s 25 0 v = fget 0 1 false v := by kernel_rfl
theorem fa25_1 (v : V) : vFieldAddr Try.prog 25 1 v = faddr 1 v := by kernel_rfl
theorem fg25_1 (s : St) (v : V) : vField Try.prog s 25 1 v = fget 1 1 false v := by kernel_rfl
theorem ev25 (x0 y0 : ByteArray) (x1 y1 : ByteArray) : eqV Try.prog 25 (.agg [V.str x0, V.str x1]) (.agg [V.str y0, V.str y1]) = some ((x0.toList == y0.toList) && ((x1.toList == y1.toList) && true)) := by kernel_rfl
theorem eg25 : Try.prog.eqGuardType Try.prog.depth 25 = false := by kernel_rfl
theorem sz26 : szOf Try.prog 26 = 1 := by kernel_rfl
theorem ag26 : isAgg Try.prog 26 = false := by kernel_rfl
theorem ze26 : zero Try.prog 26 = some [V.nilfn] := by kernel_rfl
theorem u27 : Try.prog.underlying 27 = some (.slice 29) := by kernel_rfl
theorem sz27 : szOf Try.prog 27 = 1 := by kernel_rfl
theorem ag27 : isAgg Try.prog 27 = false := by kernel_rfl
theorem eo27 : elemOf Try.prog 27 = 29 := by kernel_rfl
theorem es27 : elemSz Try.prog 27 = 3 := by kernel_rfl
theorem gr27 : growB Try.prog 27 = true := by kernel_rfl
theorem df27 : dflt Try.prog 27 = V.agg [V.int .i64 0, V.str ⟨#[]⟩, V.slc false 3 []] := by kernel_rfl
theorem ze27 : zero Try.prog 27 = some [V.slc true 3 []] := by kernel_rfl
theorem sz28 : szOf Try.prog 28 = 3 := by kernel_rfl
theorem ag28 : isAgg Try.prog 28 = true := by kernel_rfl
theorem ze28 : zero Try.prog 28 = some [V.int .i64 0, V.str ⟨#[]⟩, V.slc true 3 []] := by kernel_rfl
theorem la28 : layOf Try.prog 28 = some [(3, 0, 1), (9, 1, 1), (27, 2, 1)] := by kernel_rfl
theorem bd28 (H : Hint) (d : Nat) (ty : TypeId) (ps : Array (Nat × Operand)) (s : St) : evV Try.prog H d ty (.build 28 ps) s = aggO (buildL Try.prog [(3, 0, 1), (9, 1, 1), (27, 2, 1)] s [V.int .i64 0, V.str ⟨#[]⟩, V.slc true 3 []] ps.toList) := build_lay la28 ze28
theorem xb28 (H : Hint) (d : Nat) (ty : TypeId) (ps : Array (Nat × Operand)) (pos : String) (aft : Array Edge) (g : Option (Nat × Bool)) : isX Try.prog H { dst := some d, op := .build 28 ps, type := ty, pos := pos, after := aft, guard := g } = !memN d H.arrs := by kernel_rfl
theorem fa28_0 (v : V) : vFieldAddr Try.prog 28 0 v = faddr 0 v := by kernel_rfl
theorem fg28_0 (s : St) (v : V) : vField Try.prog s 28 0 v = fget 0 1 false v := by kernel_rfl
theorem fa28_1 (v : V) : vFieldAddr Try.prog 28 1 v = faddr 1 v := by kernel_rfl
theorem fg28_1 (s : St) (v : V) : vField Try.prog s 28 1 v = fget 1 1 false v := by kernel_rfl
theorem fa28_2 (v : V) : vFieldAddr Try.prog 28 2 v = faddr 2 v := by kernel_rfl
theorem fg28_2 (s : St) (v : V) : vField Try.prog s 28 2 v = fget 2 1 false v := by kernel_rfl
theorem sz29 : szOf Try.prog 29 = 3 := by kernel_rfl
theorem ag29 : isAgg Try.prog 29 = true := by kernel_rfl
theorem ze29 : zero Try.prog 29 = some [V.int .i64 0, V.str ⟨#[]⟩, V.slc true 3 []] := by kernel_rfl
theorem la29 : layOf Try.prog 29 = some [(3, 0, 1), (9, 1, 1), (27, 2, 1)] := by kernel_rfl
theorem bd29 (H : Hint) (d : Nat) (ty : TypeId) (ps : Array (Nat × Operand)) (s : St) : evV Try.prog H d ty (.build 29 ps) s = aggO (buildL Try.prog [(3, 0, 1), (9, 1, 1), (27, 2, 1)] s [V.int .i64 0, V.str ⟨#[]⟩, V.slc true 3 []] ps.toList) := build_lay la29 ze29
theorem xb29 (H : Hint) (d : Nat) (ty : TypeId) (ps : Array (Nat × Operand)) (pos : String) (aft : Array Edge) (g : Option (Nat × Bool)) : isX Try.prog H { dst := some d, op := .build 29 ps, type := ty, pos := pos, after := aft, guard := g } = !memN d H.arrs := by kernel_rfl
theorem fa29_0 (v : V) : vFieldAddr Try.prog 29 0 v = faddr 0 v := by kernel_rfl
theorem fg29_0 (s : St) (v : V) : vField Try.prog s 29 0 v = fget 0 1 false v := by kernel_rfl
theorem fa29_1 (v : V) : vFieldAddr Try.prog 29 1 v = faddr 1 v := by kernel_rfl
theorem fg29_1 (s : St) (v : V) : vField Try.prog s 29 1 v = fget 1 1 false v := by kernel_rfl
theorem fa29_2 (v : V) : vFieldAddr Try.prog 29 2 v = faddr 2 v := by kernel_rfl
theorem fg29_2 (s : St) (v : V) : vField Try.prog s 29 2 v = fget 2 1 false v := by kernel_rfl
theorem u30 : Try.prog.underlying 30 = some (.slice 3) := by kernel_rfl
theorem sz30 : szOf Try.prog 30 = 1 := by kernel_rfl
theorem ag30 : isAgg Try.prog 30 = false := by kernel_rfl
theorem eo30 : elemOf Try.prog 30 = 3 := by kernel_rfl
theorem es30 : elemSz Try.prog 30 = 1 := by kernel_rfl
theorem gr30 : growB Try.prog 30 = true := by kernel_rfl
theorem df30 : dflt Try.prog 30 = V.int .i64 0 := by kernel_rfl
theorem ze30 : zero Try.prog 30 = some [V.slc true 1 []] := by kernel_rfl
theorem sz31 : szOf Try.prog 31 = 8 := by kernel_rfl
theorem ag31 : isAgg Try.prog 31 = true := by kernel_rfl
theorem ze31 : zero Try.prog 31 = some [V.int .i64 0, V.str ⟨#[]⟩, V.str ⟨#[]⟩, V.int .i64 0, V.str ⟨#[]⟩, V.slc true 3 [], V.slc true 1 [], V.int .i64 0] := by kernel_rfl
theorem la31 : layOf Try.prog 31 = some [(3, 0, 1), (9, 1, 1), (9, 2, 1), (29, 3, 3), (30, 6, 1), (3, 7, 1)] := by kernel_rfl
theorem bd31 (H : Hint) (d : Nat) (ty : TypeId) (ps : Array (Nat × Operand)) (s : St) : evV Try.prog H d ty (.build 31 ps) s = aggO (buildL Try.prog [(3, 0, 1), (9, 1, 1), (9, 2, 1), (29, 3, 3), (30, 6, 1), (3, 7, 1)] s [V.int .i64 0, V.str ⟨#[]⟩, V.str ⟨#[]⟩, V.int .i64 0, V.str ⟨#[]⟩, V.slc true 3 [], V.slc true 1 [], V.int .i64 0] ps.toList) := build_lay la31 ze31
theorem xb31 (H : Hint) (d : Nat) (ty : TypeId) (ps : Array (Nat × Operand)) (pos : String) (aft : Array Edge) (g : Option (Nat × Bool)) : isX Try.prog H { dst := some d, op := .build 31 ps, type := ty, pos := pos, after := aft, guard := g } = !memN d H.arrs := by kernel_rfl
theorem fa31_0 (v : V) : vFieldAddr Try.prog 31 0 v = faddr 0 v := by kernel_rfl
theorem fg31_0 (s : St) (v : V) : vField Try.prog s 31 0 v = fget 0 1 false v := by kernel_rfl
theorem fa31_1 (v : V) : vFieldAddr Try.prog 31 1 v = faddr 1 v := by kernel_rfl
theorem fg31_1 (s : St) (v : V) : vField Try.prog s 31 1 v = fget 1 1 false v := by kernel_rfl
theorem fa31_2 (v : V) : vFieldAddr Try.prog 31 2 v = faddr 2 v := by kernel_rfl
theorem fg31_2 (s : St) (v : V) : vField Try.prog s 31 2 v = fget 2 1 false v := by kernel_rfl
theorem fa31_3 (v : V) : vFieldAddr Try.prog 31 3 v = faddr 3 v := by kernel_rfl
theorem fg31_3 (s : St) (v : V) : vField Try.prog s 31 3 v = fget 3 3 true v := by kernel_rfl
theorem fa31_4 (v : V) : vFieldAddr Try.prog 31 4 v = faddr 6 v := by kernel_rfl
theorem fg31_4 (s : St) (v : V) : vField Try.prog s 31 4 v = fget 6 1 false v := by kernel_rfl
theorem fa31_5 (v : V) : vFieldAddr Try.prog 31 5 v = faddr 7 v := by kernel_rfl
theorem fg31_5 (s : St) (v : V) : vField Try.prog s 31 5 v = fget 7 1 false v := by kernel_rfl
theorem sz32 : szOf Try.prog 32 = 8 := by kernel_rfl
theorem ag32 : isAgg Try.prog 32 = true := by kernel_rfl
theorem ze32 : zero Try.prog 32 = some [V.int .i64 0, V.str ⟨#[]⟩, V.str ⟨#[]⟩, V.int .i64 0, V.str ⟨#[]⟩, V.slc true 3 [], V.slc true 1 [], V.int .i64 0] := by kernel_rfl
theorem la32 : layOf Try.prog 32 = some [(3, 0, 1), (9, 1, 1), (9, 2, 1), (29, 3, 3), (30, 6, 1), (3, 7, 1)] := by kernel_rfl
theorem bd32 (H : Hint) (d : Nat) (ty : TypeId) (ps : Array (Nat × Operand)) (s : St) : evV Try.prog H d ty (.build 32 ps) s = aggO (buildL Try.prog [(3, 0, 1), (9, 1, 1), (9, 2, 1), (29, 3, 3), (30, 6, 1), (3, 7, 1)] s [V.int .i64 0, V.str ⟨#[]⟩, V.str ⟨#[]⟩, V.int .i64 0, V.str ⟨#[]⟩, V.slc true 3 [], V.slc true 1 [], V.int .i64 0] ps.toList) := build_lay la32 ze32
theorem xb32 (H : Hint) (d : Nat) (ty : TypeId) (ps : Array (Nat × Operand)) (pos : String) (aft : Array Edge) (g : Option (Nat × Bool)) : isX Try.prog H { dst := some d, op := .build 32 ps, type := ty, pos := pos, after := aft, guard := g } = !memN d H.arrs := by kernel_rfl
theorem fa32_0 (v : V) : vFieldAddr Try.prog 32 0 v = faddr 0 v := by kernel_rfl
theorem fg32_0 (s : St) (v : V) : vField Try.prog s 32 0 v = fget 0 1 false v := by kernel_rfl
theorem fa32_1 (v : V) : vFieldAddr Try.prog 32 1 v = faddr 1 v := by kernel_rfl
theorem fg32_1 (s : St) (v : V) : vField Try.prog s 32 1 v = fget 1 1 false v := by kernel_rfl
theorem fa32_2 (v : V) : vFieldAddr Try.prog 32 2 v = faddr 2 v := by kernel_rfl
theorem fg32_2 (s : St) (v : V) : vField Try.prog s 32 2 v = fget 2 1 false v := by kernel_rfl
theorem fa32_3 (v : V) : vFieldAddr Try.prog 32 3 v = faddr 3 v := by kernel_rfl
theorem fg32_3 (s : St) (v : V) : vField Try.prog s 32 3 v = fget 3 3 true v := by kernel_rfl
theorem fa32_4 (v : V) : vFieldAddr Try.prog 32 4 v = faddr 6 v := by kernel_rfl
theorem fg32_4 (s : St) (v : V) : vField Try.prog s 32 4 v = fget 6 1 false v := by kernel_rfl
theorem fa32_5 (v : V) : vFieldAddr Try.prog 32 5 v = faddr 7 v := by kernel_rfl
theorem fg32_5 (s : St) (v : V) : vField Try.prog s 32 5 v = fget 7 1 false v := by kernel_rfl
theorem u33 : Try.prog.underlying 33 = some (.slice 32) := by kernel_rfl
theorem sz33 : szOf Try.prog 33 = 1 := by kernel_rfl
theorem ag33 : isAgg Try.prog 33 = false := by kernel_rfl
theorem eo33 : elemOf Try.prog 33 = 32 := by kernel_rfl
theorem es33 : elemSz Try.prog 33 = 8 := by kernel_rfl
theorem gr33 : growB Try.prog 33 = true := by kernel_rfl
theorem df33 : dflt Try.prog 33 = V.agg [V.int .i64 0, V.str ⟨#[]⟩, V.str ⟨#[]⟩, V.int .i64 0, V.str ⟨#[]⟩, V.slc false 3 [], V.slc false 1 [], V.int .i64 0] := by kernel_rfl
theorem ze33 : zero Try.prog 33 = some [V.slc true 8 []] := by kernel_rfl
theorem sz34 : szOf Try.prog 34 = 1 := by kernel_rfl
theorem ag34 : isAgg Try.prog 34 = true := by kernel_rfl
theorem ze34 : zero Try.prog 34 = some [V.slc true 8 []] := by kernel_rfl
theorem la34 : layOf Try.prog 34 = some [(33, 0, 1)] := by kernel_rfl
theorem bd34 (H : Hint) (d : Nat) (ty : TypeId) (ps : Array (Nat × Operand)) (s : St) : evV Try.prog H d ty (.build 34 ps) s = aggO (buildL Try.prog [(33, 0, 1)] s [V.slc true 8 []] ps.toList) := build_lay la34 ze34
theorem xb34 (H : Hint) (d : Nat) (ty : TypeId) (ps : Array (Nat × Operand)) (pos : String) (aft : Array Edge) (g : Option (Nat × Bool)) : isX Try.prog H { dst := some d, op := .build 34 ps, type := ty, pos := pos, after := aft, guard := g } = !memN d H.arrs := by kernel_rfl
theorem fa34_0 (v : V) : vFieldAddr Try.prog 34 0 v = faddr 0 v := by kernel_rfl
theorem fg34_0 (s : St) (v : V) : vField Try.prog s 34 0 v = fget 0 1 false v := by kernel_rfl
theorem sz35 : szOf Try.prog 35 = 1 := by kernel_rfl
theorem ag35 : isAgg Try.prog 35 = true := by kernel_rfl
theorem ze35 : zero Try.prog 35 = some [V.slc true 8 []] := by kernel_rfl
theorem la35 : layOf Try.prog 35 = some [(33, 0, 1)] := by kernel_rfl
theorem bd35 (H : Hint) (d : Nat) (ty : TypeId) (ps : Array (Nat × Operand)) (s : St) : evV Try.prog H d ty (.build 35 ps) s = aggO (buildL Try.prog [(33, 0, 1)] s [V.slc true 8 []] ps.toList) := build_lay la35 ze35
theorem xb35 (H : Hint) (d : Nat) (ty : TypeId) (ps : Array (Nat × Operand)) (pos : String) (aft : Array Edge) (g : Option (Nat × Bool)) : isX Try.prog H { dst := some d, op := .build 35 ps, type := ty, pos := pos, after := aft, guard := g } = !memN d H.arrs := by kernel_rfl
theorem fa35_0 (v : V) : vFieldAddr Try.prog 35 0 v = faddr 0 v := by kernel_rfl
theorem fg35_0 (s : St) (v : V) : vField Try.prog s 35 0 v = fget 0 1 false v := by kernel_rfl
theorem u36 : Try.prog.underlying 36 = some (.slice 43) := by kernel_rfl
theorem sz36 : szOf Try.prog 36 = 1 := by kernel_rfl
theorem ag36 : isAgg Try.prog 36 = false := by kernel_rfl
theorem eo36 : elemOf Try.prog 36 = 43 := by kernel_rfl
theorem es36 : elemSz Try.prog 36 = 3 := by kernel_rfl
theorem gr36 : growB Try.prog 36 = true := by kernel_rfl
theorem df36 : dflt Try.prog 36 = V.agg [V.str ⟨#[]⟩, V.str ⟨#[]⟩, V.str ⟨#[]⟩] := by kernel_rfl
theorem ze36 : zero Try.prog 36 = some [V.slc true 3 []] := by kernel_rfl
theorem sz37 : szOf Try.prog 37 = 1 := by kernel_rfl
theorem ag37 : isAgg Try.prog 37 = false := by kernel_rfl
theorem ze37 : zero Try.prog 37 = some [V.nilfn] := by kernel_rfl
theorem sz38 : szOf Try.prog 38 = 1 := by kernel_rfl
theorem ag38 : isAgg Try.prog 38 = false := by kernel_rfl
theorem ze38 : zero Try.prog 38 = some [V.nilfn] := by kernel_rfl
theorem sz39 : szOf Try.prog 39 = 1 := by kernel_rfl
theorem ag39 : isAgg Try.prog 39 = false := by kernel_rfl
theorem ze39 : zero Try.prog 39 = some [V.nilfn] := by kernel_rfl
theorem u40 : Try.prog.underlying 40 = some (.slice 47) := by kernel_rfl
theorem sz40 : szOf Try.prog 40 = 1 := by kernel_rfl
theorem ag40 : isAgg Try.prog 40 = false := by kernel_rfl
theorem eo40 : elemOf Try.prog 40 = 47 := by kernel_rfl
theorem es40 : elemSz Try.prog 40 = 2 := by kernel_rfl
theorem gr40 : growB Try.prog 40 = true := by kernel_rfl
theorem df40 : dflt Try.prog 40 = V.agg [V.int .u8 0, V.str ⟨#[]⟩] := by kernel_rfl
theorem ze40 : zero Try.prog 40 = some [V.slc true 2 []] := by kernel_rfl
theorem sz41 : szOf Try.prog 41 = 1 := by kernel_rfl
theorem ag41 : isAgg Try.prog 41 = false := by kernel_rfl
theorem ze41 : zero Try.prog 41 = some [V.nilfn] := by kernel_rfl
theorem sz42 : szOf Try.prog 42 = 3 := by kernel_rfl
theorem ag42 : isAgg Try.prog 42 = true := by kernel_rfl
theorem ze42 : zero Try.prog 42 = some [V.str ⟨#[]⟩, V.str ⟨#[]⟩, V.str ⟨#[]⟩] := by kernel_rfl
theorem la42 : layOf Try.prog 42 = some [(9, 0, 1), (9, 1, 1), (9, 2, 1)] := by kernel_rfl
theorem bd42 (H : Hint) (d : Nat) (ty : TypeId) (ps : Array (Nat × Operand)) (s : St) : evV Try.prog H d ty (.build 42 ps) s = aggO (buildL Try.prog [(9, 0, 1), (9, 1, 1), (9, 2, 1)] s [V.str ⟨#[]⟩, V.str ⟨#[]⟩, V.str ⟨#[]⟩] ps.toList) := build_lay la42 ze42
theorem xb42 (H : Hint) (d : Nat) (ty : TypeId) (ps : Array (Nat × Operand)) (pos : String) (aft : Array Edge) (g : Option (Nat × Bool)) : isX Try.prog H { dst := some d, op := .build 42 ps, type := ty, pos := pos, after := aft, guard := g } = !memN d H.arrs := by kernel_rfl
theorem fa42_0 (v : V) : vFieldAddr Try.prog 42 0 v = faddr 0 v := by kernel_rfl
theorem fg42_0 (s : St) (v : V) : vField Try.prog s 42 0 v = fget 0 1 false v := by kernel_rfl
theorem fa42_1 (v : V) : vFieldAddr Try.prog 42 1 v = faddr 1 v := by kernel_rfl
theorem fg42_1 (s : St) (v : V) : vField Try.prog s 42 1 v = fget 1 1 false v := by kernel_rfl
theorem fa42_2 (v : V) : vFieldAddr Try.prog 42 2 v = faddr 2 v := by kernel_rfl
theorem fg42_2 (s : St) (v : V) : vField Try.prog s 42 2 v = fget 2 1 false v := by kernel_rfl
theorem sz43 : szOf Try.prog 43 = 3 := by kernel_rfl
theorem ag43 : isAgg Try.prog 43 = true := by kernel_rfl
theorem ze43 : zero Try.prog 43 = some [V.str ⟨#[]⟩, V.str ⟨#[]⟩, V.str ⟨#[]⟩] := by kernel_rfl
theorem la43 : layOf Try.prog 43 = some [(9, 0, 1), (9, 1, 1), (9, 2, 1)] := by kernel_rfl
theorem bd43 (H : Hint) (d : Nat) (ty : TypeId) (ps : Array (Nat × Operand)) (s : St) : evV Try.prog H d ty (.build 43 ps) s = aggO (buildL Try.prog [(9, 0, 1), (9, 1, 1), (9, 2, 1)] s [V.str ⟨#[]⟩, V.str ⟨#[]⟩, V.str ⟨#[]⟩] ps.toList) := build_lay la43 ze43
theorem xb43 (H : Hint) (d : Nat) (ty : TypeId) (ps : Array (Nat × Operand)) (pos : String) (aft : Array Edge) (g : Option (Nat × Bool)) : isX Try.prog H { dst := some d, op := .build 43 ps, type := ty, pos := pos, after := aft, guard := g } = !memN d H.arrs := by kernel_rfl
theorem fa43_0 (v : V) : vFieldAddr Try.prog 43 0 v = faddr 0 v := by kernel_rfl
theorem fg43_0 (s : St) (v : V) : vField Try.prog s 43 0 v = fget 0 1 false v := by kernel_rfl
theorem fa43_1 (v : V) : vFieldAddr Try.prog 43 1 v = faddr 1 v := by kernel_rfl
theorem fg43_1 (s : St) (v : V) : vField Try.prog s 43 1 v = fget 1 1 false v := by kernel_rfl
theorem fa43_2 (v : V) : vFieldAddr Try.prog 43 2 v = faddr 2 v := by kernel_rfl
theorem fg43_2 (s : St) (v : V) : vField Try.prog s 43 2 v = fget 2 1 false v := by kernel_rfl
theorem ev43 (x0 y0 : ByteArray) (x1 y1 : ByteArray) (x2 y2 : ByteArray) : eqV Try.prog 43 (.agg [V.str x0, V.str x1, V.str x2]) (.agg [V.str y0, V.str y1, V.str y2]) = some ((x0.toList == y0.toList) && ((x1.toList == y1.toList) && ((x2.toList == y2.toList) && true))) := by kernel_rfl
theorem eg43 : Try.prog.eqGuardType Try.prog.depth 43 = false := by kernel_rfl
theorem sz45 : szOf Try.prog 45 = 1 := by kernel_rfl
theorem ag45 : isAgg Try.prog 45 = false := by kernel_rfl
theorem ze45 : zero Try.prog 45 = some [V.nilfn] := by kernel_rfl
theorem sz46 : szOf Try.prog 46 = 2 := by kernel_rfl
theorem ag46 : isAgg Try.prog 46 = true := by kernel_rfl
theorem ze46 : zero Try.prog 46 = some [V.int .u8 0, V.str ⟨#[]⟩] := by kernel_rfl
theorem la46 : layOf Try.prog 46 = some [(5, 0, 1), (9, 1, 1)] := by kernel_rfl
theorem bd46 (H : Hint) (d : Nat) (ty : TypeId) (ps : Array (Nat × Operand)) (s : St) : evV Try.prog H d ty (.build 46 ps) s = aggO (buildL Try.prog [(5, 0, 1), (9, 1, 1)] s [V.int .u8 0, V.str ⟨#[]⟩] ps.toList) := build_lay la46 ze46
theorem xb46 (H : Hint) (d : Nat) (ty : TypeId) (ps : Array (Nat × Operand)) (pos : String) (aft : Array Edge) (g : Option (Nat × Bool)) : isX Try.prog H { dst := some d, op := .build 46 ps, type := ty, pos := pos, after := aft, guard := g } = !memN d H.arrs := by kernel_rfl
theorem fa46_0 (v : V) : vFieldAddr Try.prog 46 0 v = faddr 0 v := by kernel_rfl
theorem fg46_0 (s : St) (v : V) : vField Try.prog s 46 0 v = fget 0 1 false v := by kernel_rfl
theorem fa46_1 (v : V) : vFieldAddr Try.prog 46 1 v = faddr 1 v := by kernel_rfl
theorem fg46_1 (s : St) (v : V) : vField Try.prog s 46 1 v = fget 1 1 false v := by kernel_rfl
theorem sz47 : szOf Try.prog 47 = 2 := by kernel_rfl
theorem ag47 : isAgg Try.prog 47 = true := by kernel_rfl
theorem ze47 : zero Try.prog 47 = some [V.int .u8 0, V.str ⟨#[]⟩] := by kernel_rfl
theorem la47 : layOf Try.prog 47 = some [(5, 0, 1), (9, 1, 1)] := by kernel_rfl
theorem bd47 (H : Hint) (d : Nat) (ty : TypeId) (ps : Array (Nat × Operand)) (s : St) : evV Try.prog H d ty (.build 47 ps) s = aggO (buildL Try.prog [(5, 0, 1), (9, 1, 1)] s [V.int .u8 0, V.str ⟨#[]⟩] ps.toList) := build_lay la47 ze47
theorem xb47 (H : Hint) (d : Nat) (ty : TypeId) (ps : Array (Nat × Operand)) (pos : String) (aft : Array Edge) (g : Option (Nat × Bool)) : isX Try.prog H { dst := some d, op := .build 47 ps, type := ty, pos := pos, after := aft, guard := g } = !memN d H.arrs := by kernel_rfl
theorem fa47_0 (v : V) : vFieldAddr Try.prog 47 0 v = faddr 0 v := by kernel_rfl
theorem fg47_0 (s : St) (v : V) : vField Try.prog s 47 0 v = fget 0 1 false v := by kernel_rfl
theorem fa47_1 (v : V) : vFieldAddr Try.prog 47 1 v = faddr 1 v := by kernel_rfl
theorem fg47_1 (s : St) (v : V) : vField Try.prog s 47 1 v = fget 1 1 false v := by kernel_rfl
theorem ev47 (x0 y0 : Int) (x1 y1 : ByteArray) : eqV Try.prog 47 (.agg [V.int .u8 x0, V.str x1]) (.agg [V.int .u8 y0, V.str y1]) = some ((x0 == y0) && ((x1.toList == y1.toList) && true)) := by kernel_rfl
theorem eg47 : Try.prog.eqGuardType Try.prog.depth 47 = false := by kernel_rfl
theorem sz48 : szOf Try.prog 48 = 1 := by kernel_rfl
theorem ag48 : isAgg Try.prog 48 = false := by kernel_rfl
theorem ze48 : zero Try.prog 48 = some [V.nilfn] := by kernel_rfl
theorem sz49 : szOf Try.prog 49 = 1 := by kernel_rfl
theorem ag49 : isAgg Try.prog 49 = false := by kernel_rfl
theorem ze49 : zero Try.prog 49 = some [V.nilfn] := by kernel_rfl
theorem sz50 : szOf Try.prog 50 = 1 := by kernel_rfl
theorem ag50 : isAgg Try.prog 50 = false := by kernel_rfl
theorem ze50 : zero Try.prog 50 = some [V.nilfn] := by kernel_rfl
theorem sz51 : szOf Try.prog 51 = 1 := by kernel_rfl
theorem ag51 : isAgg Try.prog 51 = false := by kernel_rfl
theorem ze51 : zero Try.prog 51 = some [V.nilfn] := by kernel_rfl
theorem u52 : Try.prog.underlying 52 = some (.pointer 74) := by kernel_rfl
theorem sz52 : szOf Try.prog 52 = 1 := by kernel_rfl
theorem ag52 : isAgg Try.prog 52 = false := by kernel_rfl
theorem ze52 : zero Try.prog 52 = some [V.nilp] := by kernel_rfl
theorem sz53 : szOf Try.prog 53 = 1 := by kernel_rfl
theorem ag53 : isAgg Try.prog 53 = false := by kernel_rfl
theorem ze53 : zero Try.prog 53 = some [V.nilfn] := by kernel_rfl
theorem sz54 : szOf Try.prog 54 = 1 := by kernel_rfl
theorem ag54 : isAgg Try.prog 54 = false := by kernel_rfl
theorem ze54 : zero Try.prog 54 = some [V.nilfn] := by kernel_rfl
theorem u55 : Try.prog.underlying 55 = some (.slice 9) := by kernel_rfl
theorem sz55 : szOf Try.prog 55 = 1 := by kernel_rfl
theorem ag55 : isAgg Try.prog 55 = false := by kernel_rfl
theorem eo55 : elemOf Try.prog 55 = 9 := by kernel_rfl
theorem es55 : elemSz Try.prog 55 = 1 := by kernel_rfl
theorem gr55 : growB Try.prog 55 = true := by kernel_rfl
theorem df55 : dflt Try.prog 55 = V.str ⟨#[]⟩ := by kernel_rfl
theorem ze55 : zero Try.prog 55 = some [V.slc true 1 []] := by kernel_rfl
theorem sz56 : szOf Try.prog 56 = 1 := by kernel_rfl
theorem ag56 : isAgg Try.prog 56 = false := by kernel_rfl
theorem ze56 : zero Try.prog 56 = some [V.nilfn] := by kernel_rfl
theorem sz57 : szOf Try.prog 57 = 1 := by kernel_rfl
theorem ag57 : isAgg Try.prog 57 = false := by kernel_rfl
theorem ze57 : zero Try.prog 57 = some [V.nilfn] := by kernel_rfl
theorem sz58 : szOf Try.prog 58 = 1 := by kernel_rfl
theorem ag58 : isAgg Try.prog 58 = false := by kernel_rfl
theorem ze58 : zero Try.prog 58 = some [V.nilfn] := by kernel_rfl
theorem sz59 : szOf Try.prog 59 = 1 := by kernel_rfl
theorem ag59 : isAgg Try.prog 59 = false := by kernel_rfl
theorem ze59 : zero Try.prog 59 = some [V.nilfn] := by kernel_rfl
theorem sz60 : szOf Try.prog 60 = 1 := by kernel_rfl
theorem ag60 : isAgg Try.prog 60 = false := by kernel_rfl
theorem ze60 : zero Try.prog 60 = some [V.nilfn] := by kernel_rfl
theorem sz61 : szOf Try.prog 61 = 1 := by kernel_rfl
theorem ag61 : isAgg Try.prog 61 = false := by kernel_rfl
theorem ze61 : zero Try.prog 61 = some [V.nilfn] := by kernel_rfl
theorem sz62 : szOf Try.prog 62 = 1 := by kernel_rfl
theorem ag62 : isAgg Try.prog 62 = false := by kernel_rfl
theorem ze62 : zero Try.prog 62 = some [V.nilfn] := by kernel_rfl
theorem xa63 (H : Hint) (d : Nat) (ty : TypeId) (ps : Array (Nat × Operand)) (pos : String) (aft : Array Edge) (g : Option (Nat × Bool)) : isX Try.prog H { dst := some d, op := .build 63 ps, type := ty, pos := pos, after := aft, guard := g } = memN d H.arrs := by kernel_rfl
theorem u63 : Try.prog.underlying 63 = some (.array 2 5) := by kernel_rfl
theorem sz63 : szOf Try.prog 63 = 2 := by kernel_rfl
theorem ag63 : isAgg Try.prog 63 = true := by kernel_rfl
theorem eo63 : elemOf Try.prog 63 = 5 := by kernel_rfl
theorem es63 : elemSz Try.prog 63 = 1 := by kernel_rfl
theorem ze63 : zero Try.prog 63 = some [V.int .u8 0, V.int .u8 0] := by kernel_rfl
theorem u64 : Try.prog.underlying 64 = some (.slice 63) := by kernel_rfl
theorem sz64 : szOf Try.prog 64 = 1 := by kernel_rfl
theorem ag64 : isAgg Try.prog 64 = false := by kernel_rfl
theorem eo64 : elemOf Try.prog 64 = 63 := by kernel_rfl
theorem es64 : elemSz Try.prog 64 = 2 := by kernel_rfl
theorem gr64 : growB Try.prog 64 = true := by kernel_rfl
theorem df64 : dflt Try.prog 64 = V.agg [V.int .u8 0, V.int .u8 0] := by kernel_rfl
theorem ze64 : zero Try.prog 64 = some [V.slc true 2 []] := by kernel_rfl
theorem sz65 : szOf Try.prog 65 = 1 := by kernel_rfl
theorem ag65 : isAgg Try.prog 65 = false := by kernel_rfl
theorem ze65 : zero Try.prog 65 = some [V.nilfn] := by kernel_rfl
theorem sz66 : szOf Try.prog 66 = 1 := by kernel_rfl
theorem ag66 : isAgg Try.prog 66 = false := by kernel_rfl
theorem ze66 : zero Try.prog 66 = some [V.nilfn] := by kernel_rfl
theorem sz67 : szOf Try.prog 67 = 1 := by kernel_rfl
theorem ag67 : isAgg Try.prog 67 = false := by kernel_rfl
theorem ze67 : zero Try.prog 67 = some [V.nilfn] := by kernel_rfl
theorem sz68 : szOf Try.prog 68 = 1 := by kernel_rfl
theorem ag68 : isAgg Try.prog 68 = false := by kernel_rfl
theorem ze68 : zero Try.prog 68 = some [V.nilfn] := by kernel_rfl
theorem sz69 : szOf Try.prog 69 = 1 := by kernel_rfl
theorem ag69 : isAgg Try.prog 69 = false := by kernel_rfl
theorem ze69 : zero Try.prog 69 = some [V.nilfn] := by kernel_rfl
theorem sz70 : szOf Try.prog 70 = 1 := by kernel_rfl
theorem ag70 : isAgg Try.prog 70 = false := by kernel_rfl
theorem ze70 : zero Try.prog 70 = some [V.nilfn] := by kernel_rfl
theorem sz71 : szOf Try.prog 71 = 1 := by kernel_rfl
theorem ag71 : isAgg Try.prog 71 = false := by kernel_rfl
theorem ze71 : zero Try.prog 71 = some [V.nilfn] := by kernel_rfl
theorem sz72 : szOf Try.prog 72 = 1 := by kernel_rfl
theorem ag72 : isAgg Try.prog 72 = false := by kernel_rfl
theorem ze72 : zero Try.prog 72 = some [V.nilfn] := by kernel_rfl
theorem sz73 : szOf Try.prog 73 = 3 := by kernel_rfl
theorem ag73 : isAgg Try.prog 73 = true := by kernel_rfl
theorem ze73 : zero Try.prog 73 = some [V.slc true 1 [], V.int .i64 0, V.int .i64 0] := by kernel_rfl
theorem la73 : layOf Try.prog 73 = some [(22, 0, 1), (3, 1, 1), (3, 2, 1)] := by kernel_rfl
theorem bd73 (H : Hint) (d : Nat) (ty : TypeId) (ps : Array (Nat × Operand)) (s : St) : evV Try.prog H d ty (.build 73 ps) s = aggO (buildL Try.prog [(22, 0, 1), (3, 1, 1), (3, 2, 1)] s [V.slc true 1 [], V.int .i64 0, V.int .i64 0] ps.toList) := build_lay la73 ze73
theorem xb73 (H : Hint) (d : Nat) (ty : TypeId) (ps : Array (Nat × Operand)) (pos : String) (aft : Array Edge) (g : Option (Nat × Bool)) : isX Try.prog H { dst := some d, op := .build 73 ps, type := ty, pos := pos, after := aft, guard := g } = !memN d H.arrs := by kernel_rfl
theorem fa73_0 (v : V) : vFieldAddr Try.prog 73 0 v = faddr 0 v := by kernel_rfl
theorem fg73_0 (s : St) (v : V) : vField Try.prog s 73 0 v = fget 0 1 false v := by kernel_rfl
theorem fa73_1 (v : V) : vFieldAddr Try.prog 73 1 v = faddr 1 v := by kernel_rfl
theorem fg73_1 (s : St) (v : V) : vField Try.prog s 73 1 v = fget 1 1 false v := by kernel_rfl
theorem fa73_2 (v : V) : vFieldAddr Try.prog 73 2 v = faddr 2 v := by kernel_rfl
theorem fg73_2 (s : St) (v : V) : vField Try.prog s 73 2 v = fget 2 1 false v := by kernel_rfl
theorem sz74 : szOf Try.prog 74 = 3 := by kernel_rfl
theorem ag74 : isAgg Try.prog 74 = true := by kernel_rfl
theorem ze74 : zero Try.prog 74 = some [V.slc true 1 [], V.int .i64 0, V.int .i64 0] := by kernel_rfl
theorem la74 : layOf Try.prog 74 = some [(22, 0, 1), (3, 1, 1), (3, 2, 1)] := by kernel_rfl
theorem bd74 (H : Hint) (d : Nat) (ty : TypeId) (ps : Array (Nat × Operand)) (s : St) : evV Try.prog H d ty (.build 74 ps) s = aggO (buildL Try.prog [(22, 0, 1), (3, 1, 1), (3, 2, 1)] s [V.slc true 1 [], V.int .i64 0, V.int .i64 0] ps.toList) := build_lay la74 ze74
theorem xb74 (H : Hint) (d : Nat) (ty : TypeId) (ps : Array (Nat × Operand)) (pos : String) (aft : Array Edge) (g : Option (Nat × Bool)) : isX Try.prog H { dst := some d, op := .build 74 ps, type := ty, pos := pos, after := aft, guard := g } = !memN d H.arrs := by kernel_rfl
theorem fa74_0 (v : V) : vFieldAddr Try.prog 74 0 v = faddr 0 v := by kernel_rfl
theorem fg74_0 (s : St) (v : V) : vField Try.prog s 74 0 v = fget 0 1 false v := by kernel_rfl
theorem fa74_1 (v : V) : vFieldAddr Try.prog 74 1 v = faddr 1 v := by kernel_rfl
theorem fg74_1 (s : St) (v : V) : vField Try.prog s 74 1 v = fget 1 1 false v := by kernel_rfl
theorem fa74_2 (v : V) : vFieldAddr Try.prog 74 2 v = faddr 2 v := by kernel_rfl
theorem fg74_2 (s : St) (v : V) : vField Try.prog s 74 2 v = fget 2 1 false v := by kernel_rfl
theorem sz75 : szOf Try.prog 75 = 1 := by kernel_rfl
theorem ag75 : isAgg Try.prog 75 = false := by kernel_rfl
theorem ze75 : zero Try.prog 75 = some [V.nilfn] := by kernel_rfl
theorem sz76 : szOf Try.prog 76 = 1 := by kernel_rfl
theorem ag76 : isAgg Try.prog 76 = false := by kernel_rfl
theorem ze76 : zero Try.prog 76 = some [V.nilfn] := by kernel_rfl
theorem sz77 : szOf Try.prog 77 = 1 := by kernel_rfl
theorem ag77 : isAgg Try.prog 77 = false := by kernel_rfl
theorem ze77 : zero Try.prog 77 = some [V.nilfn] := by kernel_rfl
theorem sz78 : szOf Try.prog 78 = 1 := by kernel_rfl
theorem ag78 : isAgg Try.prog 78 = false := by kernel_rfl
theorem ze78 : zero Try.prog 78 = some [V.nilfn] := by kernel_rfl
theorem sz79 : szOf Try.prog 79 = 1 := by kernel_rfl
theorem ag79 : isAgg Try.prog 79 = false := by kernel_rfl
theorem ze79 : zero Try.prog 79 = some [V.nilfn] := by kernel_rfl
theorem sz80 : szOf Try.prog 80 = 1 := by kernel_rfl
theorem ag80 : isAgg Try.prog 80 = false := by kernel_rfl
theorem ze80 : zero Try.prog 80 = some [V.nilfn] := by kernel_rfl
theorem sz81 : szOf Try.prog 81 = 1 := by kernel_rfl
theorem ag81 : isAgg Try.prog 81 = false := by kernel_rfl
theorem ze81 : zero Try.prog 81 = some [V.nilfn] := by kernel_rfl
theorem sz82 : szOf Try.prog 82 = 1 := by kernel_rfl
theorem ag82 : isAgg Try.prog 82 = false := by kernel_rfl
theorem ze82 : zero Try.prog 82 = some [V.nilfn] := by kernel_rfl
theorem sz83 : szOf Try.prog 83 = 1 := by kernel_rfl
theorem ag83 : isAgg Try.prog 83 = false := by kernel_rfl
theorem ze83 : zero Try.prog 83 = some [V.nilfn] := by kernel_rfl
theorem sz84 : szOf Try.prog 84 = 1 := by kernel_rfl
theorem ag84 : isAgg Try.prog 84 = false := by kernel_rfl
theorem ze84 : zero Try.prog 84 = some [V.nilfn] := by kernel_rfl
theorem sz85 : szOf Try.prog 85 = 1 := by kernel_rfl
theorem ag85 : isAgg Try.prog 85 = false := by kernel_rfl
theorem ze85 : zero Try.prog 85 = some [V.nilfn] := by kernel_rfl
theorem sz86 : szOf Try.prog 86 = 1 := by kernel_rfl
theorem ag86 : isAgg Try.prog 86 = false := by kernel_rfl
theorem ze86 : zero Try.prog 86 = some [V.nilfn] := by kernel_rfl
theorem sz87 : szOf Try.prog 87 = 1 := by kernel_rfl
theorem ag87 : isAgg Try.prog 87 = false := by kernel_rfl
theorem ze87 : zero Try.prog 87 = some [V.nilfn] := by kernel_rfl
theorem u89 : Try.prog.underlying 89 = some (.int .u64) := by kernel_rfl
theorem sz89 : szOf Try.prog 89 = 1 := by kernel_rfl
theorem ag89 : isAgg Try.prog 89 = false := by kernel_rfl
theorem ze89 : zero Try.prog 89 = some [V.int .u64 0] := by kernel_rfl
theorem sz90 : szOf Try.prog 90 = 1 := by kernel_rfl
theorem ag90 : isAgg Try.prog 90 = false := by kernel_rfl
theorem ze90 : zero Try.prog 90 = some [V.nilfn] := by kernel_rfl
theorem sz91 : szOf Try.prog 91 = 1 := by kernel_rfl
theorem ag91 : isAgg Try.prog 91 = false := by kernel_rfl
theorem ze91 : zero Try.prog 91 = some [V.nilfn] := by kernel_rfl
theorem sz92 : szOf Try.prog 92 = 1 := by kernel_rfl
theorem ag92 : isAgg Try.prog 92 = false := by kernel_rfl
theorem ze92 : zero Try.prog 92 = some [V.nilfn] := by kernel_rfl
theorem sz93 : szOf Try.prog 93 = 1 := by kernel_rfl
theorem ag93 : isAgg Try.prog 93 = false := by kernel_rfl
theorem ze93 : zero Try.prog 93 = some [V.nilfn] := by kernel_rfl
theorem sz94 : szOf Try.prog 94 = 1 := by kernel_rfl
theorem ag94 : isAgg Try.prog 94 = false := by kernel_rfl
theorem ze94 : zero Try.prog 94 = some [V.nilfn] := by kernel_rfl
theorem u95 : Try.prog.underlying 95 = some (.pointer 99) := by kernel_rfl
theorem sz95 : szOf Try.prog 95 = 1 := by kernel_rfl
theorem ag95 : isAgg Try.prog 95 = false := by kernel_rfl
theorem ze95 : zero Try.prog 95 = some [V.nilp] := by kernel_rfl
theorem u96 : Try.prog.underlying 96 = some (.slice 30) := by kernel_rfl
theorem sz96 : szOf Try.prog 96 = 1 := by kernel_rfl
theorem ag96 : isAgg Try.prog 96 = false := by kernel_rfl
theorem eo96 : elemOf Try.prog 96 = 30 := by kernel_rfl
theorem es96 : elemSz Try.prog 96 = 1 := by kernel_rfl
theorem gr96 : growB Try.prog 96 = true := by kernel_rfl
theorem df96 : dflt Try.prog 96 = V.slc false 1 [] := by kernel_rfl
theorem ze96 : zero Try.prog 96 = some [V.slc true 1 []] := by kernel_rfl
theorem u97 : Try.prog.underlying 97 = some (.slice 96) := by kernel_rfl
theorem sz97 : szOf Try.prog 97 = 1 := by kernel_rfl
theorem ag97 : isAgg Try.prog 97 = false := by kernel_rfl
theorem eo97 : elemOf Try.prog 97 = 96 := by kernel_rfl
theorem es97 : elemSz Try.prog 97 = 1 := by kernel_rfl
theorem gr97 : growB Try.prog 97 = true := by kernel_rfl
theorem df97 : dflt Try.prog 97 = V.slc false 1 [] := by kernel_rfl
theorem ze97 : zero Try.prog 97 = some [V.slc true 1 []] := by kernel_rfl
theorem sz98 : szOf Try.prog 98 = 4 := by kernel_rfl
theorem ag98 : isAgg Try.prog 98 = true := by kernel_rfl
theorem ze98 : zero Try.prog 98 = some [V.str ⟨#[]⟩, V.slc true 3 [], V.slc true 1 [], V.slc true 1 []] := by kernel_rfl
theorem la98 : layOf Try.prog 98 = some [(9, 0, 1), (27, 1, 1), (96, 2, 1), (97, 3, 1)] := by kernel_rfl
theorem bd98 (H : Hint) (d : Nat) (ty : TypeId) (ps : Array (Nat × Operand)) (s : St) : evV Try.prog H d ty (.build 98 ps) s = aggO (buildL Try.prog [(9, 0, 1), (27, 1, 1), (96, 2, 1), (97, 3, 1)] s [V.str ⟨#[]⟩, V.slc true 3 [], V.slc true 1 [], V.slc true 1 []] ps.toList) := build_lay la98 ze98
theorem xb98 (H : Hint) (d : Nat) (ty : TypeId) (ps : Array (Nat × Operand)) (pos : String) (aft : Array Edge) (g : Option (Nat × Bool)) : isX Try.prog H { dst := some d, op := .build 98 ps, type := ty, pos := pos, after := aft, guard := g } = !memN d H.arrs := by kernel_rfl
theorem fa98_0 (v : V) : vFieldAddr Try.prog 98 0 v = faddr 0 v := by kernel_rfl
theorem fg98_0 (s : St) (v : V) : vField Try.prog s 98 0 v = fget 0 1 false v := by kernel_rfl
theorem fa98_1 (v : V) : vFieldAddr Try.prog 98 1 v = faddr 1 v := by kernel_rfl
theorem fg98_1 (s : St) (v : V) : vField Try.prog s 98 1 v = fget 1 1 false v := by kernel_rfl
theorem fa98_2 (v : V) : vFieldAddr Try.prog 98 2 v = faddr 2 v := by kernel_rfl
theorem fg98_2 (s : St) (v : V) : vField Try.prog s 98 2 v = fget 2 1 false v := by kernel_rfl
theorem fa98_3 (v : V) : vFieldAddr Try.prog 98 3 v = faddr 3 v := by kernel_rfl
theorem fg98_3 (s : St) (v : V) : vField Try.prog s 98 3 v = fget 3 1 false v := by kernel_rfl
theorem sz99 : szOf Try.prog 99 = 4 := by kernel_rfl
theorem ag99 : isAgg Try.prog 99 = true := by kernel_rfl
theorem ze99 : zero Try.prog 99 = some [V.str ⟨#[]⟩, V.slc true 3 [], V.slc true 1 [], V.slc true 1 []] := by kernel_rfl
theorem la99 : layOf Try.prog 99 = some [(9, 0, 1), (27, 1, 1), (96, 2, 1), (97, 3, 1)] := by kernel_rfl
theorem bd99 (H : Hint) (d : Nat) (ty : TypeId) (ps : Array (Nat × Operand)) (s : St) : evV Try.prog H d ty (.build 99 ps) s = aggO (buildL Try.prog [(9, 0, 1), (27, 1, 1), (96, 2, 1), (97, 3, 1)] s [V.str ⟨#[]⟩, V.slc true 3 [], V.slc true 1 [], V.slc true 1 []] ps.toList) := build_lay la99 ze99
theorem xb99 (H : Hint) (d : Nat) (ty : TypeId) (ps : Array (Nat × Operand)) (pos : String) (aft : Array Edge) (g : Option (Nat × Bool)) : isX Try.prog H { dst := some d, op := .build 99 ps, type := ty, pos := pos, after := aft, guard := g } = !memN d H.arrs := by kernel_rfl
theorem fa99_0 (v : V) : vFieldAddr Try.prog 99 0 v = faddr 0 v := by kernel_rfl
theorem fg99_0 (s : St) (v : V) : vField Try.prog s 99 0 v = fget 0 1 false v := by kernel_rfl
theorem fa99_1 (v : V) : vFieldAddr Try.prog 99 1 v = faddr 1 v := by kernel_rfl
theorem fg99_1 (s : St) (v : V) : vField Try.prog s 99 1 v = fget 1 1 false v := by kernel_rfl
theorem fa99_2 (v : V) : vFieldAddr Try.prog 99 2 v = faddr 2 v := by kernel_rfl
theorem fg99_2 (s : St) (v : V) : vField Try.prog s 99 2 v = fget 2 1 false v := by kernel_rfl
theorem fa99_3 (v : V) : vFieldAddr Try.prog 99 3 v = faddr 3 v := by kernel_rfl
theorem fg99_3 (s : St) (v : V) : vField Try.prog s 99 3 v = fget 3 1 false v := by kernel_rfl
theorem sz100 : szOf Try.prog 100 = 1 := by kernel_rfl
theorem ag100 : isAgg Try.prog 100 = false := by kernel_rfl
theorem ze100 : zero Try.prog 100 = some [V.nilfn] := by kernel_rfl
theorem sz101 : szOf Try.prog 101 = 1 := by kernel_rfl
theorem ag101 : isAgg Try.prog 101 = false := by kernel_rfl
theorem ze101 : zero Try.prog 101 = some [V.nilfn] := by kernel_rfl
theorem sz102 : szOf Try.prog 102 = 1 := by kernel_rfl
theorem ag102 : isAgg Try.prog 102 = false := by kernel_rfl
theorem ze102 : zero Try.prog 102 = some [V.nilfn] := by kernel_rfl
theorem sz103 : szOf Try.prog 103 = 1 := by kernel_rfl
theorem ag103 : isAgg Try.prog 103 = false := by kernel_rfl
theorem ze103 : zero Try.prog 103 = some [V.nilfn] := by kernel_rfl
theorem sz104 : szOf Try.prog 104 = 1 := by kernel_rfl
theorem ag104 : isAgg Try.prog 104 = false := by kernel_rfl
theorem ze104 : zero Try.prog 104 = some [V.nilfn] := by kernel_rfl
theorem sz105 : szOf Try.prog 105 = 4 := by kernel_rfl
theorem ag105 : isAgg Try.prog 105 = true := by kernel_rfl
theorem ze105 : zero Try.prog 105 = some [V.nilp, V.nilp, V.nilp, V.str ⟨#[]⟩] := by kernel_rfl
theorem la105 : layOf Try.prog 105 = some [(17, 0, 1), (17, 1, 1), (17, 2, 1), (9, 3, 1)] := by kernel_rfl
theorem bd105 (H : Hint) (d : Nat) (ty : TypeId) (ps : Array (Nat × Operand)) (s : St) : evV Try.prog H d ty (.build 105 ps) s = aggO (buildL Try.prog [(17, 0, 1), (17, 1, 1), (17, 2, 1), (9, 3, 1)] s [V.nilp, V.nilp, V.nilp, V.str ⟨#[]⟩] ps.toList) := build_lay la105 ze105
theorem xb105 (H : Hint) (d : Nat) (ty : TypeId) (ps : Array (Nat × Operand)) (pos : String) (aft : Array Edge) (g : Option (Nat × Bool)) : isX Try.prog H { dst := some d, op := .build 105 ps, type := ty, pos := pos, after := aft, guard := g } = !memN d H.arrs := by kernel_rfl
theorem fa105_0 (v : V) : vFieldAddr Try.prog 105 0 v = faddr 0 v := by kernel_rfl
theorem fg105_0 (s : St) (v : V) : vField Try.prog s 105 0 v = fget 0 1 false v := by kernel_rfl
theorem fa105_1 (v : V) : vFieldAddr Try.prog 105 1 v = faddr 1 v := by kernel_rfl
theorem fg105_1 (s : St) (v : V) : vField Try.prog s 105 1 v = fget 1 1 false v := by kernel_rfl
theorem fa105_2 (v : V) : vFieldAddr Try.prog 105 2 v = faddr 2 v := by kernel_rfl
theorem fg105_2 (s : St) (v : V) : vField Try.prog s 105 2 v = fget 2 1 false v := by kernel_rfl
theorem fa105_3 (v : V) : vFieldAddr Try.prog 105 3 v = faddr 3 v := by kernel_rfl
theorem fg105_3 (s : St) (v : V) : vField Try.prog s 105 3 v = fget 3 1 false v := by kernel_rfl
theorem sz106 : szOf Try.prog 106 = 4 := by kernel_rfl
theorem ag106 : isAgg Try.prog 106 = true := by kernel_rfl
theorem ze106 : zero Try.prog 106 = some [V.nilp, V.nilp, V.nilp, V.str ⟨#[]⟩] := by kernel_rfl
theorem la106 : layOf Try.prog 106 = some [(17, 0, 1), (17, 1, 1), (17, 2, 1), (9, 3, 1)] := by kernel_rfl
theorem bd106 (H : Hint) (d : Nat) (ty : TypeId) (ps : Array (Nat × Operand)) (s : St) : evV Try.prog H d ty (.build 106 ps) s = aggO (buildL Try.prog [(17, 0, 1), (17, 1, 1), (17, 2, 1), (9, 3, 1)] s [V.nilp, V.nilp, V.nilp, V.str ⟨#[]⟩] ps.toList) := build_lay la106 ze106
theorem xb106 (H : Hint) (d : Nat) (ty : TypeId) (ps : Array (Nat × Operand)) (pos : String) (aft : Array Edge) (g : Option (Nat × Bool)) : isX Try.prog H { dst := some d, op := .build 106 ps, type := ty, pos := pos, after := aft, guard := g } = !memN d H.arrs := by kernel_rfl
theorem fa106_0 (v : V) : vFieldAddr Try.prog 106 0 v = faddr 0 v := by kernel_rfl
theorem fg106_0 (s : St) (v : V) : vField Try.prog s 106 0 v = fget 0 1 false v := by kernel_rfl
theorem fa106_1 (v : V) : vFieldAddr Try.prog 106 1 v = faddr 1 v := by kernel_rfl
theorem fg106_1 (s : St) (v : V) : vField Try.prog s 106 1 v = fget 1 1 false v := by kernel_rfl
theorem fa106_2 (v : V) : vFieldAddr Try.prog 106 2 v = faddr 2 v := by kernel_rfl
theorem fg106_2 (s : St) (v : V) : vField Try.prog s 106 2 v = fget 2 1 false v := by kernel_rfl
theorem fa106_3 (v : V) : vFieldAddr Try.prog 106 3 v = faddr 3 v := by kernel_rfl
theorem fg106_3 (s : St) (v : V) : vField Try.prog s 106 3 v = fget 3 1 false v := by kernel_rfl
theorem xa107 (H : Hint) (d : Nat) (ty : TypeId) (ps : Array (Nat × Operand)) (pos : String) (aft : Array Edge) (g : Option (Nat × Bool)) : isX Try.prog H { dst := some d, op := .build 107 ps, type := ty, pos := pos, after := aft, guard := g } = memN d H.arrs := by kernel_rfl
theorem u107 : Try.prog.underlying 107 = some (.array 0 16) := by kernel_rfl
theorem sz107 : szOf Try.prog 107 = 0 := by kernel_rfl
theorem ag107 : isAgg Try.prog 107 = true := by kernel_rfl
theorem eo107 : elemOf Try.prog 107 = 16 := by kernel_rfl
theorem es107 : elemSz Try.prog 107 = 1 := by kernel_rfl
theorem ze107 : zero Try.prog 107 = some [] := by kernel_rfl
theorem sz108 : szOf Try.prog 108 = 0 := by kernel_rfl
theorem ag108 : isAgg Try.prog 108 = true := by kernel_rfl
theorem ze108 : zero Try.prog 108 = some [] := by kernel_rfl
theorem sz109 : szOf Try.prog 109 = 0 := by kernel_rfl
theorem ag109 : isAgg Try.prog 109 = true := by kernel_rfl
theorem ze109 : zero Try.prog 109 = some [] := by kernel_rfl
theorem sz110 : szOf Try.prog 110 = 1 := by kernel_rfl
theorem ag110 : isAgg Try.prog 110 = false := by kernel_rfl
theorem ze110 : zero Try.prog 110 = some [V.nilfn] := by kernel_rfl
theorem u111 : Try.prog.underlying 111 = some (.int .u32) := by kernel_rfl
theorem sz111 : szOf Try.prog 111 = 1 := by kernel_rfl
theorem ag111 : isAgg Try.prog 111 = false := by kernel_rfl
theorem ze111 : zero Try.prog 111 = some [V.int .u32 0] := by kernel_rfl
theorem u112 : Try.prog.underlying 112 = some (.int .u8) := by kernel_rfl
theorem sz112 : szOf Try.prog 112 = 1 := by kernel_rfl
theorem ag112 : isAgg Try.prog 112 = false := by kernel_rfl
theorem ze112 : zero Try.prog 112 = some [V.int .u8 0] := by kernel_rfl
theorem u113 : Try.prog.underlying 113 = some (.int .u8) := by kernel_rfl
theorem sz113 : szOf Try.prog 113 = 1 := by kernel_rfl
theorem ag113 : isAgg Try.prog 113 = false := by kernel_rfl
theorem ze113 : zero Try.prog 113 = some [V.int .u8 0] := by kernel_rfl
theorem sz114 : szOf Try.prog 114 = 1 := by kernel_rfl
theorem ag114 : isAgg Try.prog 114 = false := by kernel_rfl
theorem ze114 : zero Try.prog 114 = some [V.nilfn] := by kernel_rfl
theorem u115 : Try.prog.underlying 115 = some (.pointer 5) := by kernel_rfl
theorem sz115 : szOf Try.prog 115 = 1 := by kernel_rfl
theorem ag115 : isAgg Try.prog 115 = false := by kernel_rfl
theorem ze115 : zero Try.prog 115 = some [V.nilp] := by kernel_rfl
theorem u116 : Try.prog.underlying 116 = some (.int .i32) := by kernel_rfl
theorem sz116 : szOf Try.prog 116 = 1 := by kernel_rfl
theorem ag116 : isAgg Try.prog 116 = false := by kernel_rfl
theorem ze116 : zero Try.prog 116 = some [V.int .i32 0] := by kernel_rfl
theorem u117 : Try.prog.underlying 117 = some (.int .i32) := by kernel_rfl
theorem sz117 : szOf Try.prog 117 = 1 := by kernel_rfl
theorem ag117 : isAgg Try.prog 117 = false := by kernel_rfl
theorem ze117 : zero Try.prog 117 = some [V.int .i32 0] := by kernel_rfl
theorem sz118 : szOf Try.prog 118 = 11 := by kernel_rfl
theorem ag118 : isAgg Try.prog 118 = true := by kernel_rfl
theorem ze118 : zero Try.prog 118 = some [V.int .u64 0, V.int .u64 0, V.int .u32 0, V.int .u8 0, V.int .u8 0, V.int .u8 0, V.int .u8 0, V.nilfn, V.nilp, V.int .i32 0, V.int .i32 0] := by kernel_rfl
theorem la118 : layOf Try.prog 118 = some [(12, 0, 1), (12, 1, 1), (111, 2, 1), (112, 3, 1), (5, 4, 1), (5, 5, 1), (113, 6, 1), (114, 7, 1), (115, 8, 1), (116, 9, 1), (117, 10, 1)] := by kernel_rfl
theorem bd118 (H : Hint) (d : Nat) (ty : TypeId) (ps : Array (Nat × Operand)) (s : St) : evV Try.prog H d ty (.build 118 ps) s = aggO (buildL Try.prog [(12, 0, 1), (12, 1, 1), (111, 2, 1), (112, 3, 1), (5, 4, 1), (5, 5, 1), (113, 6, 1), (114, 7, 1), (115, 8, 1), (116, 9, 1), (117, 10, 1)] s [V.int .u64 0, V.int .u64 0, V.int .u32 0, V.int .u8 0, V.int .u8 0, V.int .u8 0, V.int .u8 0, V.nilfn, V.nilp, V.int .i32 0, V.int .i32 0] ps.toList) := build_lay la118 ze118
theorem xb118 (H : Hint) (d : Nat) (ty : TypeId) (ps : Array (Nat × Operand)) (pos : String) (aft : Array Edge) (g : Option (Nat × Bool)) : isX Try.prog H { dst := some d, op := .build 118 ps, type := ty, pos := pos, after := aft, guard := g } = !memN d H.arrs := by kernel_rfl
theorem fa118_0 (v : V) : vFieldAddr Try.prog 118 0 v = faddr 0 v := by kernel_rfl
theorem fg118_0 (s : St) (v : V) : vField Try.prog s 118 0 v = fget 0 1 false v := by kernel_rfl
theorem fa118_1 (v : V) : vFieldAddr Try.prog 118 1 v = faddr 1 v := by kernel_rfl
theorem fg118_1 (s : St) (v : V) : vField Try.prog s 118 1 v = fget 1 1 false v := by kernel_rfl
theorem fa118_2 (v : V) : vFieldAddr Try.prog 118 2 v = faddr 2 v := by kernel_rfl
theorem fg118_2 (s : St) (v : V) : vField Try.prog s 118 2 v = fget 2 1 false v := by kernel_rfl
theorem fa118_3 (v : V) : vFieldAddr Try.prog 118 3 v = faddr 3 v := by kernel_rfl
theorem fg118_3 (s : St) (v : V) : vField Try.prog s 118 3 v = fget 3 1 false v := by kernel_rfl
theorem fa118_4 (v : V) : vFieldAddr Try.prog 118 4 v = faddr 4 v := by kernel_rfl
theorem fg118_4 (s : St) (v : V) : vField Try.prog s 118 4 v = fget 4 1 false v := by kernel_rfl
theorem fa118_5 (v : V) : vFieldAddr Try.prog 118 5 v = faddr 5 v := by kernel_rfl
theorem fg118_5 (s : St) (v : V) : vField Try.prog s 118 5 v = fget 5 1 false v := by kernel_rfl
theorem fa118_6 (v : V) : vFieldAddr Try.prog 118 6 v = faddr 6 v := by kernel_rfl
theorem fg118_6 (s : St) (v : V) : vField Try.prog s 118 6 v = fget 6 1 false v := by kernel_rfl
theorem fa118_7 (v : V) : vFieldAddr Try.prog 118 7 v = faddr 7 v := by kernel_rfl
theorem fg118_7 (s : St) (v : V) : vField Try.prog s 118 7 v = fget 7 1 false v := by kernel_rfl
theorem fa118_8 (v : V) : vFieldAddr Try.prog 118 8 v = faddr 8 v := by kernel_rfl
theorem fg118_8 (s : St) (v : V) : vField Try.prog s 118 8 v = fget 8 1 false v := by kernel_rfl
theorem fa118_9 (v : V) : vFieldAddr Try.prog 118 9 v = faddr 9 v := by kernel_rfl
theorem fg118_9 (s : St) (v : V) : vField Try.prog s 118 9 v = fget 9 1 false v := by kernel_rfl
theorem fa118_10 (v : V) : vFieldAddr Try.prog 118 10 v = faddr 10 v := by kernel_rfl
theorem fg118_10 (s : St) (v : V) : vField Try.prog s 118 10 v = fget 10 1 false v := by kernel_rfl
theorem sz119 : szOf Try.prog 119 = 11 := by kernel_rfl
theorem ag119 : isAgg Try.prog 119 = true := by kernel_rfl
theorem ze119 : zero Try.prog 119 = some [V.int .u64 0, V.int .u64 0, V.int .u32 0, V.int .u8 0, V.int .u8 0, V.int .u8 0, V.int .u8 0, V.nilfn, V.nilp, V.int .i32 0, V.int .i32 0] := by kernel_rfl
theorem la119 : layOf Try.prog 119 = some [(12, 0, 1), (12, 1, 1), (111, 2, 1), (112, 3, 1), (5, 4, 1), (5, 5, 1), (113, 6, 1), (114, 7, 1), (115, 8, 1), (116, 9, 1), (117, 10, 1)] := by kernel_rfl
theorem bd119 (H : Hint) (d : Nat) (ty : TypeId) (ps : Array (Nat × Operand)) (s : St) : evV Try.prog H d ty (.build 119 ps) s = aggO (buildL Try.prog [(12, 0, 1), (12, 1, 1), (111, 2, 1), (112, 3, 1), (5, 4, 1), (5, 5, 1), (113, 6, 1), (114, 7, 1), (115, 8, 1), (116, 9, 1), (117, 10, 1)] s [V.int .u64 0, V.int .u64 0, V.int .u32 0, V.int .u8 0, V.int .u8 0, V.int .u8 0, V.int .u8 0, V.nilfn, V.nilp, V.int .i32 0, V.int .i32 0] ps.toList) := build_lay la119 ze119
theorem xb119 (H : Hint) (d : Nat) (ty : TypeId) (ps : Array (Nat × Operand)) (pos : String) (aft : Array Edge) (g : Option (Nat × Bool)) : isX Try.prog H { dst := some d, op := .build 119 ps, type := ty, pos := pos, after := aft, guard := g } = !memN d H.arrs := by kernel_rfl
theorem fa119_0 (v : V) : vFieldAddr Try.prog 119 0 v = faddr 0 v := by kernel_rfl
theorem fg119_0 (s : St) (v : V) : vField Try.prog s 119 0 v = fget 0 1 false v := by kernel_rfl
theorem fa119_1 (v : V) : vFieldAddr Try.prog 119 1 v = faddr 1 v := by kernel_rfl
theorem fg119_1 (s : St) (v : V) : vField Try.prog s 119 1 v = fget 1 1 false v := by kernel_rfl
theorem fa119_2 (v : V) : vFieldAddr Try.prog 119 2 v = faddr 2 v := by kernel_rfl
theorem fg119_2 (s : St) (v : V) : vField Try.prog s 119 2 v = fget 2 1 false v := by kernel_rfl
theorem fa119_3 (v : V) : vFieldAddr Try.prog 119 3 v = faddr 3 v := by kernel_rfl
theorem fg119_3 (s : St) (v : V) : vField Try.prog s 119 3 v = fget 3 1 false v := by kernel_rfl
theorem fa119_4 (v : V) : vFieldAddr Try.prog 119 4 v = faddr 4 v := by kernel_rfl
theorem fg119_4 (s : St) (v : V) : vField Try.prog s 119 4 v = fget 4 1 false v := by kernel_rfl
theorem fa119_5 (v : V) : vFieldAddr Try.prog 119 5 v = faddr 5 v := by kernel_rfl
theorem fg119_5 (s : St) (v : V) : vField Try.prog s 119 5 v = fget 5 1 false v := by kernel_rfl
theorem fa119_6 (v : V) : vFieldAddr Try.prog 119 6 v = faddr 6 v := by kernel_rfl
theorem fg119_6 (s : St) (v : V) : vField Try.prog s 119 6 v = fget 6 1 false v := by kernel_rfl
theorem fa119_7 (v : V) : vFieldAddr Try.prog 119 7 v = faddr 7 v := by kernel_rfl
theorem fg119_7 (s : St) (v : V) : vField Try.prog s 119 7 v = fget 7 1 false v := by kernel_rfl
theorem fa119_8 (v : V) : vFieldAddr Try.prog 119 8 v = faddr 8 v := by kernel_rfl
theorem fg119_8 (s : St) (v : V) : vField Try.prog s 119 8 v = fget 8 1 false v := by kernel_rfl
theorem fa119_9 (v : V) : vFieldAddr Try.prog 119 9 v = faddr 9 v := by kernel_rfl
theorem fg119_9 (s : St) (v : V) : vField Try.prog s 119 9 v = fget 9 1 false v := by kernel_rfl
theorem fa119_10 (v : V) : vFieldAddr Try.prog 119 10 v = faddr 10 v := by kernel_rfl
theorem fg119_10 (s : St) (v : V) : vField Try.prog s 119 10 v = fget 10 1 false v := by kernel_rfl
theorem by3 : (Try.prog.bytesOf 3) = 8 := by kernel_rfl
theorem by5 : (Try.prog.bytesOf 5) = 1 := by kernel_rfl
theorem by9 : (Try.prog.bytesOf 9) = 16 := by kernel_rfl
theorem by29 : (Try.prog.bytesOf 29) = 48 := by kernel_rfl
theorem by30 : (Try.prog.bytesOf 30) = 24 := by kernel_rfl
theorem by32 : (Try.prog.bytesOf 32) = 120 := by kernel_rfl
theorem by43 : (Try.prog.bytesOf 43) = 48 := by kernel_rfl
theorem by47 : (Try.prog.bytesOf 47) = 24 := by kernel_rfl
theorem by63 : (Try.prog.bytesOf 63) = 2 := by kernel_rfl
theorem by96 : (Try.prog.bytesOf 96) = 24 := by kernel_rfl
attribute [go_sem] sz1 ag1 ze1 u2 sz2 ag2 ze2 u3 sz3 ag3 ze3 u4 sz4 ag4 ze4 ev4 u5 sz5 ag5 ze5 u6 sz6 ag6 ze6 sz7 ag7 ze7 fa7_0 fg7_0 fa7_1 fg7_1 fa7_2 fg7_2 fa7_3 fg7_3 sz8 ag8 ze8 fa8_0 fg8_0 fa8_1 fg8_1 fa8_2 fg8_2 fa8_3 fg8_3 u9 sz9 ag9 ze9 u10 sz10 ag10 ze10 u11 sz11 ag11 ze11 u12 sz12 ag12 ze12 sz13 ag13 ze13 fa13_0 fg13_0 fa13_1 fg13_1 sz14 ag14 ze14 fa14_0 fg14_0 fa14_1 fg14_1 u15 sz15 ag15 ze15 u16 sz16 ag16 ze16 u17 sz17 ag17 ze17 sz18 ag18 ze18 fa18_0 fg18_0 sz19 ag19 ze19 fa19_0 fg19_0 u21 sz21 ag21 ze21 u22 sz22 ag22 eo22 es22 gr22 df22 ze22 sz23 ag23 ze23 sz24 ag24 ze24 fa24_0 fg24_0 fa24_1 fg24_1 sz25 ag25 ze25 fa25_0 fg25_0 fa25_1 fg25_1 ev25 eg25 sz26 ag26 ze26 u27 sz27 ag27 eo27 es27 gr27 df27 ze27 sz28 ag28 ze28 fa28_0 fg28_0 fa28_1 fg28_1 fa28_2 fg28_2 sz29 ag29 ze29 fa29_0 fg29_0 fa29_1 fg29_1 fa29_2 fg29_2 u30 sz30 ag30 eo30 es30 gr30 df30 ze30 sz31 ag31 ze31 fa31_0 fg31_0 fa31_1 fg31_1 fa31_2 fg31_2 fa31_3 fg31_3 fa31_4 fg31_4 fa31_5 fg31_5 sz32 ag32 ze32 fa32_0 fg32_0 fa32_1 fg32_1 fa32_2 fg32_2 fa32_3 fg32_3 fa32_4 fg32_4 fa32_5 fg32_5 u33 sz33 ag33 eo33 es33 gr33 df33 ze33 sz34 ag34 ze34 fa34_0 fg34_0 sz35 ag35 ze35 fa35_0 fg35_0 u36 sz36 ag36 eo36 es36 gr36 df36 ze36 sz37 ag37 ze37 sz38 ag38 ze38 sz39 ag39 ze39 u40 sz40 ag40 eo40 es40 gr40 df40 ze40 sz41 ag41 ze41 sz42 ag42 ze42 fa42_0 fg42_0 fa42_1 fg42_1 fa42_2 fg42_2 sz43 ag43 ze43 fa43_0 fg43_0 fa43_1 fg43_1 fa43_2 fg43_2 ev43 eg43 sz45 ag45 ze45 sz46 ag46 ze46 fa46_0 fg46_0 fa46_1 fg46_1 sz47 ag47 ze47 fa47_0 fg47_0 fa47_1 fg47_1 ev47 eg47 sz48 ag48 ze48 sz49 ag49 ze49 sz50 ag50 ze50 sz51 ag51 ze51 u52 sz52 ag52 ze52 sz53 ag53 ze53 sz54 ag54 ze54 u55 sz55 ag55 eo55 es55 gr55 df55 ze55 sz56 ag56 ze56 sz57 ag57 ze57 sz58 ag58 ze58 sz59 ag59 ze59 sz60 ag60 ze60 sz61 ag61 ze61 sz62 ag62 ze62 u63 sz63 ag63 eo63 es63 ze63 u64 sz64 ag64 eo64 es64 gr64 df64 ze64 sz65 ag65 ze65 sz66 ag66 ze66 sz67 ag67 ze67 sz68 ag68 ze68 sz69 ag69 ze69 sz70 ag70 ze70 sz71 ag71 ze71 sz72 ag72 ze72 sz73 ag73 ze73 fa73_0 fg73_0 fa73_1 fg73_1 fa73_2 fg73_2 sz74 ag74 ze74 fa74_0 fg74_0 fa74_1 fg74_1 fa74_2 fg74_2 sz75 ag75 ze75 sz76 ag76 ze76 sz77 ag77 ze77 sz78 ag78 ze78 sz79 ag79 ze79 sz80 ag80 ze80 sz81 ag81 ze81 sz82 ag82 ze82 sz83 ag83 ze83 sz84 ag84 ze84 sz85 ag85 ze85 sz86 ag86 ze86 sz87 ag87 ze87 u89 sz89 ag89 ze89 sz90 ag90 ze90 sz91 ag91 ze91 sz92 ag92 ze92 sz93 ag93 ze93 sz94 ag94 ze94 u95 sz95 ag95 ze95 u96 sz96 ag96 eo96 es96 gr96 df96 ze96 u97 sz97 ag97 eo97 es97 gr97 df97 ze97 sz98 ag98 ze98 fa98_0 fg98_0 fa98_1 fg98_1 fa98_2 fg98_2 fa98_3 fg98_3 sz99 ag99 ze99 fa99_0 fg99_0 fa99_1 fg99_1 fa99_2 fg99_2 fa99_3 fg99_3 sz100 ag100 ze100 sz101 ag101 ze101 sz102 ag102 ze102 sz103 ag103 ze103 sz104 ag104 ze104 sz105 ag105 ze105 fa105_0 fg105_0 fa105_1 fg105_1 fa105_2 fg105_2 fa105_3 fg105_3 sz106 ag106 ze106 fa106_0 fg106_0 fa106_1 fg106_1 fa106_2 fg106_2 fa106_3 fg106_3 u107 sz107 ag107 eo107 es107 ze107 sz108 ag108 ze108 sz109 ag109 ze109 sz110 ag110 ze110 u111 sz111 ag111 ze111 u112 sz112 ag112 ze112 u113 sz113 ag113 ze113 sz114 ag114 ze114 u115 sz115 ag115 ze115 u116 sz116 ag116 ze116 u117 sz117 ag117 ze117 sz118 ag118 ze118 fa118_0 fg118_0 fa118_1 fg118_1 fa118_2 fg118_2 fa118_3 fg118_3 fa118_4 fg118_4 fa118_5 fg118_5 fa118_6 fg118_6 fa118_7 fg118_7 fa118_8 fg118_8 fa118_9 fg118_9 fa118_10 fg118_10 sz119 ag119 ze119 fa119_0 fg119_0 fa119_1 fg119_1 fa119_2 fg119_2 fa119_3 fg119_3 fa119_4 fg119_4 fa119_5 fg119_5 fa119_6 fg119_6 fa119_7 fg119_7 fa119_8 fg119_8 fa119_9 fg119_9 fa119_10 fg119_10 by3 by5 by9 by29 by30 by32 by43 by47 by63 by96
attribute [go_sem high] bd7 xb7 bd8 xb8 bd13 xb13 bd14 xb14 bd18 xb18 bd19 xb19 bd24 xb24 bd25 xb25 bd28 xb28 bd29 xb29 bd31 xb31 bd32 xb32 bd34 xb34 bd35 xb35 bd42 xb42 bd43 xb43 bd46 xb46 bd47 xb47 xa63 bd73 xb73 bd74 xb74 bd98 xb98 bd99 xb99 bd105 xb105 bd106 xb106 xa107 bd118 xb118 bd119 xb119
end Go.Ev
