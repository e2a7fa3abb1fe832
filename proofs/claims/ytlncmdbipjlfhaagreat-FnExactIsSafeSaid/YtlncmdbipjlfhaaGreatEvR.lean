/- Facts on the seat's types, printed by a program. -/
import Derived.Test.YtlncmdbipjlfhaaGreatProg
import Derived.Test.YtlncmdbipjlfhaaGreatEvM
set_option linter.unusedVariables false
set_option linter.unusedSimpArgs false
namespace Go.Ev
open Go Go.Proofs
set_option maxRecDepth 10000
theorem sz1 : szOf Tryz.prog 1 = 1 := by kernel_rfl
theorem ag1 : isAgg Tryz.prog 1 = false := by kernel_rfl
theorem ze1 : zero Tryz.prog 1 = some [V.nilfn] := by kernel_rfl
theorem u2 : Tryz.prog.underlying 2 = some (.int .i64) := by kernel_rfl
theorem sz2 : szOf Tryz.prog 2 = 1 := by kernel_rfl
theorem ag2 : isAgg Tryz.prog 2 = false := by kernel_rfl
theorem ze2 : zero Tryz.prog 2 = some [V.int .i64 0] := by kernel_rfl
theorem u3 : Tryz.prog.underlying 3 = some (.int .i64) := by kernel_rfl
theorem sz3 : szOf Tryz.prog 3 = 1 := by kernel_rfl
theorem ag3 : isAgg Tryz.prog 3 = false := by kernel_rfl
theorem ze3 : zero Tryz.prog 3 = some [V.int .i64 0] := by kernel_rfl
theorem u4 : Tryz.prog.underlying 4 = some .bool := by kernel_rfl
theorem sz4 : szOf Tryz.prog 4 = 1 := by kernel_rfl
theorem ag4 : isAgg Tryz.prog 4 = false := by kernel_rfl
theorem ze4 : zero Tryz.prog 4 = some [V.bool false] := by kernel_rfl
theorem ev4 (x y : Bool) : eqV Tryz.prog 4 (.bool x) (.bool y) = some (x == y) := by kernel_rfl
theorem u5 : Tryz.prog.underlying 5 = some (.int .u8) := by kernel_rfl
theorem sz5 : szOf Tryz.prog 5 = 1 := by kernel_rfl
theorem ag5 : isAgg Tryz.prog 5 = false := by kernel_rfl
theorem ze5 : zero Tryz.prog 5 = some [V.int .u8 0] := by kernel_rfl
theorem u6 : Tryz.prog.underlying 6 = some (.int .u8) := by kernel_rfl
theorem sz6 : szOf Tryz.prog 6 = 1 := by kernel_rfl
theorem ag6 : isAgg Tryz.prog 6 = false := by kernel_rfl
theorem ze6 : zero Tryz.prog 6 = some [V.int .u8 0] := by kernel_rfl
theorem sz7 : szOf Tryz.prog 7 = 4 := by kernel_rfl
theorem ag7 : isAgg Tryz.prog 7 = true := by kernel_rfl
theorem ze7 : zero Tryz.prog 7 = some [V.int .i64 0, V.int .i64 0, V.bool false, V.int .u8 0] := by kernel_rfl
theorem la7 : layOf Tryz.prog 7 = some [(2, 0, 1), (3, 1, 1), (4, 2, 1), (6, 3, 1)] := by kernel_rfl
theorem bd7 (H : Hint) (d : Nat) (ty : TypeId) (ps : Array (Nat × Operand)) (s : St) : evV Tryz.prog H d ty (.build 7 ps) s = aggO (buildL Tryz.prog [(2, 0, 1), (3, 1, 1), (4, 2, 1), (6, 3, 1)] s [V.int .i64 0, V.int .i64 0, V.bool false, V.int .u8 0] ps.toList) := build_lay la7 ze7
theorem xb7 (H : Hint) (d : Nat) (ty : TypeId) (ps : Array (Nat × Operand)) (pos : String) (aft : Array Edge) (g : Option (Nat × Bool)) : isX Tryz.prog H { dst := some d, op := .build 7 ps, type := ty, pos := pos, after := aft, guard := g } = !memN d H.arrs := by kernel_rfl
theorem fa7_0 (v : V) : vFieldAddr Tryz.prog 7 0 v = faddr 0 v := by kernel_rfl
theorem fg7_0 (s : St) (v : V) : vField Tryz.prog s 7 0 v = fget 0 1 false v := by kernel_rfl
theorem fa7_1 (v : V) : vFieldAddr Tryz.prog 7 1 v = faddr 1 v := by kernel_rfl
theorem fg7_1 (s : St) (v : V) : vField Tryz.prog s 7 1 v = fget 1 1 false v := by kernel_rfl
theorem fa7_2 (v : V) : vFieldAddr Tryz.prog 7 2 v = faddr 2 v := by kernel_rfl
theorem fg7_2 (s : St) (v : V) : vField Tryz.prog s 7 2 v = fget 2 1 false v := by kernel_rfl
theorem fa7_3 (v : V) : vFieldAddr Tryz.prog 7 3 v = faddr 3 v := by kernel_rfl
theorem fg7_3 (s : St) (v : V) : vField Tryz.prog s 7 3 v = fget 3 1 false v := by kernel_rfl
theorem sz8 : szOf Tryz.prog 8 = 4 := by kernel_rfl
theorem ag8 : isAgg Tryz.prog 8 = true := by kernel_rfl
theorem ze8 : zero Tryz.prog 8 = some [V.int .i64 0, V.int .i64 0, V.bool false, V.int .u8 0] := by kernel_rfl
theorem la8 : layOf Tryz.prog 8 = some [(2, 0, 1), (3, 1, 1), (4, 2, 1), (6, 3, 1)] := by kernel_rfl
theorem bd8 (H : Hint) (d : Nat) (ty : TypeId) (ps : Array (Nat × Operand)) (s : St) : evV Tryz.prog H d ty (.build 8 ps) s = aggO (buildL Tryz.prog [(2, 0, 1), (3, 1, 1), (4, 2, 1), (6, 3, 1)] s [V.int .i64 0, V.int .i64 0, V.bool false, V.int .u8 0] ps.toList) := build_lay la8 ze8
theorem xb8 (H : Hint) (d : Nat) (ty : TypeId) (ps : Array (Nat × Operand)) (pos : String) (aft : Array Edge) (g : Option (Nat × Bool)) : isX Tryz.prog H { dst := some d, op := .build 8 ps, type := ty, pos := pos, after := aft, guard := g } = !memN d H.arrs := by kernel_rfl
theorem fa8_0 (v : V) : vFieldAddr Tryz.prog 8 0 v = faddr 0 v := by kernel_rfl
theorem fg8_0 (s : St) (v : V) : vField Tryz.prog s 8 0 v = fget 0 1 false v := by kernel_rfl
theorem fa8_1 (v : V) : vFieldAddr Tryz.prog 8 1 v = faddr 1 v := by kernel_rfl
theorem fg8_1 (s : St) (v : V) : vField Tryz.prog s 8 1 v = fget 1 1 false v := by kernel_rfl
theorem fa8_2 (v : V) : vFieldAddr Tryz.prog 8 2 v = faddr 2 v := by kernel_rfl
theorem fg8_2 (s : St) (v : V) : vField Tryz.prog s 8 2 v = fget 2 1 false v := by kernel_rfl
theorem fa8_3 (v : V) : vFieldAddr Tryz.prog 8 3 v = faddr 3 v := by kernel_rfl
theorem fg8_3 (s : St) (v : V) : vField Tryz.prog s 8 3 v = fget 3 1 false v := by kernel_rfl
theorem u9 : Tryz.prog.underlying 9 = some .string := by kernel_rfl
theorem sz9 : szOf Tryz.prog 9 = 1 := by kernel_rfl
theorem ag9 : isAgg Tryz.prog 9 = false := by kernel_rfl
theorem ze9 : zero Tryz.prog 9 = some [V.str ⟨#[]⟩] := by kernel_rfl
theorem u10 : Tryz.prog.underlying 10 = some .string := by kernel_rfl
theorem sz10 : szOf Tryz.prog 10 = 1 := by kernel_rfl
theorem ag10 : isAgg Tryz.prog 10 = false := by kernel_rfl
theorem ze10 : zero Tryz.prog 10 = some [V.str ⟨#[]⟩] := by kernel_rfl
theorem u11 : Tryz.prog.underlying 11 = some .string := by kernel_rfl
theorem sz11 : szOf Tryz.prog 11 = 1 := by kernel_rfl
theorem ag11 : isAgg Tryz.prog 11 = false := by kernel_rfl
theorem ze11 : zero Tryz.prog 11 = some [V.str ⟨#[]⟩] := by kernel_rfl
theorem u12 : Tryz.prog.underlying 12 = some (.int .u64) := by kernel_rfl
theorem sz12 : szOf Tryz.prog 12 = 1 := by kernel_rfl
theorem ag12 : isAgg Tryz.prog 12 = false := by kernel_rfl
theorem ze12 : zero Tryz.prog 12 = some [V.int .u64 0] := by kernel_rfl
theorem sz13 : szOf Tryz.prog 13 = 2 := by kernel_rfl
theorem ag13 : isAgg Tryz.prog 13 = true := by kernel_rfl
theorem ze13 : zero Tryz.prog 13 = some [V.str ⟨#[]⟩, V.int .u64 0] := by kernel_rfl
theorem la13 : layOf Tryz.prog 13 = some [(9, 0, 1), (12, 1, 1)] := by kernel_rfl
theorem bd13 (H : Hint) (d : Nat) (ty : TypeId) (ps : Array (Nat × Operand)) (s : St) : evV Tryz.prog H d ty (.build 13 ps) s = aggO (buildL Tryz.prog [(9, 0, 1), (12, 1, 1)] s [V.str ⟨#[]⟩, V.int .u64 0] ps.toList) := build_lay la13 ze13
theorem xb13 (H : Hint) (d : Nat) (ty : TypeId) (ps : Array (Nat × Operand)) (pos : String) (aft : Array Edge) (g : Option (Nat × Bool)) : isX Tryz.prog H { dst := some d, op := .build 13 ps, type := ty, pos := pos, after := aft, guard := g } = !memN d H.arrs := by kernel_rfl
theorem fa13_0 (v : V) : vFieldAddr Tryz.prog 13 0 v = faddr 0 v := by kernel_rfl
theorem fg13_0 (s : St) (v : V) : vField Tryz.prog s 13 0 v = fget 0 1 false v := by kernel_rfl
theorem fa13_1 (v : V) : vFieldAddr Tryz.prog 13 1 v = faddr 1 v := by kernel_rfl
theorem fg13_1 (s : St) (v : V) : vField Tryz.prog s 13 1 v = fget 1 1 false v := by kernel_rfl
theorem sz14 : szOf Tryz.prog 14 = 2 := by kernel_rfl
theorem ag14 : isAgg Tryz.prog 14 = true := by kernel_rfl
theorem ze14 : zero Tryz.prog 14 = some [V.str ⟨#[]⟩, V.int .u64 0] := by kernel_rfl
theorem la14 : layOf Tryz.prog 14 = some [(9, 0, 1), (12, 1, 1)] := by kernel_rfl
theorem bd14 (H : Hint) (d : Nat) (ty : TypeId) (ps : Array (Nat × Operand)) (s : St) : evV Tryz.prog H d ty (.build 14 ps) s = aggO (buildL Tryz.prog [(9, 0, 1), (12, 1, 1)] s [V.str ⟨#[]⟩, V.int .u64 0] ps.toList) := build_lay la14 ze14
theorem xb14 (H : Hint) (d : Nat) (ty : TypeId) (ps : Array (Nat × Operand)) (pos : String) (aft : Array Edge) (g : Option (Nat × Bool)) : isX Tryz.prog H { dst := some d, op := .build 14 ps, type := ty, pos := pos, after := aft, guard := g } = !memN d H.arrs := by kernel_rfl
theorem fa14_0 (v : V) : vFieldAddr Tryz.prog 14 0 v = faddr 0 v := by kernel_rfl
theorem fg14_0 (s : St) (v : V) : vField Tryz.prog s 14 0 v = fget 0 1 false v := by kernel_rfl
theorem fa14_1 (v : V) : vFieldAddr Tryz.prog 14 1 v = faddr 1 v := by kernel_rfl
theorem fg14_1 (s : St) (v : V) : vField Tryz.prog s 14 1 v = fget 1 1 false v := by kernel_rfl
theorem u15 : Tryz.prog.underlying 15 = some (.pointer 159) := by kernel_rfl
theorem sz15 : szOf Tryz.prog 15 = 1 := by kernel_rfl
theorem ag15 : isAgg Tryz.prog 15 = false := by kernel_rfl
theorem ze15 : zero Tryz.prog 15 = some [V.nilp] := by kernel_rfl
theorem u16 : Tryz.prog.underlying 16 = some (.pointer 162) := by kernel_rfl
theorem sz16 : szOf Tryz.prog 16 = 1 := by kernel_rfl
theorem ag16 : isAgg Tryz.prog 16 = false := by kernel_rfl
theorem ze16 : zero Tryz.prog 16 = some [V.nilp] := by kernel_rfl
theorem u17 : Tryz.prog.underlying 17 = some (.pointer 172) := by kernel_rfl
theorem sz17 : szOf Tryz.prog 17 = 1 := by kernel_rfl
theorem ag17 : isAgg Tryz.prog 17 = false := by kernel_rfl
theorem ze17 : zero Tryz.prog 17 = some [V.nilp] := by kernel_rfl
theorem sz18 : szOf Tryz.prog 18 = 1 := by kernel_rfl
theorem ag18 : isAgg Tryz.prog 18 = true := by kernel_rfl
theorem ze18 : zero Tryz.prog 18 = some [V.nilp] := by kernel_rfl
theorem la18 : layOf Tryz.prog 18 = some [(17, 0, 1)] := by kernel_rfl
theorem bd18 (H : Hint) (d : Nat) (ty : TypeId) (ps : Array (Nat × Operand)) (s : St) : evV Tryz.prog H d ty (.build 18 ps) s = aggO (buildL Tryz.prog [(17, 0, 1)] s [V.nilp] ps.toList) := build_lay la18 ze18
theorem xb18 (H : Hint) (d : Nat) (ty : TypeId) (ps : Array (Nat × Operand)) (pos : String) (aft : Array Edge) (g : Option (Nat × Bool)) : isX Tryz.prog H { dst := some d, op := .build 18 ps, type := ty, pos := pos, after := aft, guard := g } = !memN d H.arrs := by kernel_rfl
theorem fa18_0 (v : V) : vFieldAddr Tryz.prog 18 0 v = faddr 0 v := by kernel_rfl
theorem fg18_0 (s : St) (v : V) : vField Tryz.prog s 18 0 v = fget 0 1 false v := by kernel_rfl
theorem sz19 : szOf Tryz.prog 19 = 1 := by kernel_rfl
theorem ag19 : isAgg Tryz.prog 19 = true := by kernel_rfl
theorem ze19 : zero Tryz.prog 19 = some [V.nilp] := by kernel_rfl
theorem la19 : layOf Tryz.prog 19 = some [(17, 0, 1)] := by kernel_rfl
theorem bd19 (H : Hint) (d : Nat) (ty : TypeId) (ps : Array (Nat × Operand)) (s : St) : evV Tryz.prog H d ty (.build 19 ps) s = aggO (buildL Tryz.prog [(17, 0, 1)] s [V.nilp] ps.toList) := build_lay la19 ze19
theorem xb19 (H : Hint) (d : Nat) (ty : TypeId) (ps : Array (Nat × Operand)) (pos : String) (aft : Array Edge) (g : Option (Nat × Bool)) : isX Tryz.prog H { dst := some d, op := .build 19 ps, type := ty, pos := pos, after := aft, guard := g } = !memN d H.arrs := by kernel_rfl
theorem fa19_0 (v : V) : vFieldAddr Tryz.prog 19 0 v = faddr 0 v := by kernel_rfl
theorem fg19_0 (s : St) (v : V) : vField Tryz.prog s 19 0 v = fget 0 1 false v := by kernel_rfl
theorem u21 : Tryz.prog.underlying 21 = some (.int .i32) := by kernel_rfl
theorem sz21 : szOf Tryz.prog 21 = 1 := by kernel_rfl
theorem ag21 : isAgg Tryz.prog 21 = false := by kernel_rfl
theorem ze21 : zero Tryz.prog 21 = some [V.int .i32 0] := by kernel_rfl
theorem u22 : Tryz.prog.underlying 22 = some (.slice 75) := by kernel_rfl
theorem sz22 : szOf Tryz.prog 22 = 1 := by kernel_rfl
theorem ag22 : isAgg Tryz.prog 22 = false := by kernel_rfl
theorem eo22 : elemOf Tryz.prog 22 = 75 := by kernel_rfl
theorem es22 : elemSz Tryz.prog 22 = 8 := by kernel_rfl
theorem gr22 : growB Tryz.prog 22 = true := by kernel_rfl
theorem df22 : dflt Tryz.prog 22 = V.agg [V.int .i64 0, V.str ⟨#[]⟩, V.str ⟨#[]⟩, V.str ⟨#[]⟩, V.str ⟨#[]⟩, V.int .i64 0, V.str ⟨#[]⟩, V.slc false 3 []] := by kernel_rfl
theorem ze22 : zero Tryz.prog 22 = some [V.slc true 8 []] := by kernel_rfl
theorem sz23 : szOf Tryz.prog 23 = 1 := by kernel_rfl
theorem ag23 : isAgg Tryz.prog 23 = true := by kernel_rfl
theorem ze23 : zero Tryz.prog 23 = some [V.slc true 8 []] := by kernel_rfl
theorem la23 : layOf Tryz.prog 23 = some [(22, 0, 1)] := by kernel_rfl
theorem bd23 (H : Hint) (d : Nat) (ty : TypeId) (ps : Array (Nat × Operand)) (s : St) : evV Tryz.prog H d ty (.build 23 ps) s = aggO (buildL Tryz.prog [(22, 0, 1)] s [V.slc true 8 []] ps.toList) := build_lay la23 ze23
theorem xb23 (H : Hint) (d : Nat) (ty : TypeId) (ps : Array (Nat × Operand)) (pos : String) (aft : Array Edge) (g : Option (Nat × Bool)) : isX Tryz.prog H { dst := some d, op := .build 23 ps, type := ty, pos := pos, after := aft, guard := g } = !memN d H.arrs := by kernel_rfl
theorem fa23_0 (v : V) : vFieldAddr Tryz.prog 23 0 v = faddr 0 v := by kernel_rfl
theorem fg23_0 (s : St) (v : V) : vField Tryz.prog s 23 0 v = fget 0 1 false v := by kernel_rfl
theorem sz24 : szOf Tryz.prog 24 = 1 := by kernel_rfl
theorem ag24 : isAgg Tryz.prog 24 = true := by kernel_rfl
theorem ze24 : zero Tryz.prog 24 = some [V.slc true 8 []] := by kernel_rfl
theorem la24 : layOf Tryz.prog 24 = some [(22, 0, 1)] := by kernel_rfl
theorem bd24 (H : Hint) (d : Nat) (ty : TypeId) (ps : Array (Nat × Operand)) (s : St) : evV Tryz.prog H d ty (.build 24 ps) s = aggO (buildL Tryz.prog [(22, 0, 1)] s [V.slc true 8 []] ps.toList) := build_lay la24 ze24
theorem xb24 (H : Hint) (d : Nat) (ty : TypeId) (ps : Array (Nat × Operand)) (pos : String) (aft : Array Edge) (g : Option (Nat × Bool)) : isX Tryz.prog H { dst := some d, op := .build 24 ps, type := ty, pos := pos, after := aft, guard := g } = !memN d H.arrs := by kernel_rfl
theorem fa24_0 (v : V) : vFieldAddr Tryz.prog 24 0 v = faddr 0 v := by kernel_rfl
theorem fg24_0 (s : St) (v : V) : vField Tryz.prog s 24 0 v = fget 0 1 false v := by kernel_rfl
theorem sz25 : szOf Tryz.prog 25 = 1 := by kernel_rfl
theorem ag25 : isAgg Tryz.prog 25 = false := by kernel_rfl
theorem ze25 : zero Tryz.prog 25 = some [V.nilfn] := by kernel_rfl
theorem u26 : Tryz.prog.underlying 26 = some (.slice 4) := by kernel_rfl
theorem sz26 : szOf Tryz.prog 26 = 1 := by kernel_rfl
theorem ag26 : isAgg Tryz.prog 26 = false := by kernel_rfl
theorem eo26 : elemOf Tryz.prog 26 = 4 := by kernel_rfl
theorem es26 : elemSz Tryz.prog 26 = 1 := by kernel_rfl
theorem gr26 : growB Tryz.prog 26 = true := by kernel_rfl
theorem df26 : dflt Tryz.prog 26 = V.bool false := by kernel_rfl
theorem ze26 : zero Tryz.prog 26 = some [V.slc true 1 []] := by kernel_rfl
theorem u27 : Tryz.prog.underlying 27 = some (.slice 44) := by kernel_rfl
theorem sz27 : szOf Tryz.prog 27 = 1 := by kernel_rfl
theorem ag27 : isAgg Tryz.prog 27 = false := by kernel_rfl
theorem eo27 : elemOf Tryz.prog 27 = 44 := by kernel_rfl
theorem es27 : elemSz Tryz.prog 27 = 1 := by kernel_rfl
theorem gr27 : growB Tryz.prog 27 = true := by kernel_rfl
theorem df27 : dflt Tryz.prog 27 = V.slc false 1 [] := by kernel_rfl
theorem ze27 : zero Tryz.prog 27 = some [V.slc true 1 []] := by kernel_rfl
theorem sz28 : szOf Tryz.prog 28 = 2 := by kernel_rfl
theorem ag28 : isAgg Tryz.prog 28 = true := by kernel_rfl
theorem ze28 : zero Tryz.prog 28 = some [V.slc true 1 [], V.slc true 1 []] := by kernel_rfl
theorem la28 : layOf Tryz.prog 28 = some [(26, 0, 1), (27, 1, 1)] := by kernel_rfl
theorem bd28 (H : Hint) (d : Nat) (ty : TypeId) (ps : Array (Nat × Operand)) (s : St) : evV Tryz.prog H d ty (.build 28 ps) s = aggO (buildL Tryz.prog [(26, 0, 1), (27, 1, 1)] s [V.slc true 1 [], V.slc true 1 []] ps.toList) := build_lay la28 ze28
theorem xb28 (H : Hint) (d : Nat) (ty : TypeId) (ps : Array (Nat × Operand)) (pos : String) (aft : Array Edge) (g : Option (Nat × Bool)) : isX Tryz.prog H { dst := some d, op := .build 28 ps, type := ty, pos := pos, after := aft, guard := g } = !memN d H.arrs := by kernel_rfl
theorem fa28_0 (v : V) : vFieldAddr Tryz.prog 28 0 v = faddr 0 v := by kernel_rfl
theorem fg28_0 (s : St) (v : V) : vField Tryz.prog s 28 0 v = fget 0 1 false v := by kernel_rfl
theorem fa28_1 (v : V) : vFieldAddr Tryz.prog 28 1 v = faddr 1 v := by kernel_rfl
theorem fg28_1 (s : St) (v : V) : vField Tryz.prog s 28 1 v = fget 1 1 false v := by kernel_rfl
theorem sz29 : szOf Tryz.prog 29 = 2 := by kernel_rfl
theorem ag29 : isAgg Tryz.prog 29 = true := by kernel_rfl
theorem ze29 : zero Tryz.prog 29 = some [V.slc true 1 [], V.slc true 1 []] := by kernel_rfl
theorem la29 : layOf Tryz.prog 29 = some [(26, 0, 1), (27, 1, 1)] := by kernel_rfl
theorem bd29 (H : Hint) (d : Nat) (ty : TypeId) (ps : Array (Nat × Operand)) (s : St) : evV Tryz.prog H d ty (.build 29 ps) s = aggO (buildL Tryz.prog [(26, 0, 1), (27, 1, 1)] s [V.slc true 1 [], V.slc true 1 []] ps.toList) := build_lay la29 ze29
theorem xb29 (H : Hint) (d : Nat) (ty : TypeId) (ps : Array (Nat × Operand)) (pos : String) (aft : Array Edge) (g : Option (Nat × Bool)) : isX Tryz.prog H { dst := some d, op := .build 29 ps, type := ty, pos := pos, after := aft, guard := g } = !memN d H.arrs := by kernel_rfl
theorem fa29_0 (v : V) : vFieldAddr Tryz.prog 29 0 v = faddr 0 v := by kernel_rfl
theorem fg29_0 (s : St) (v : V) : vField Tryz.prog s 29 0 v = fget 0 1 false v := by kernel_rfl
theorem fa29_1 (v : V) : vFieldAddr Tryz.prog 29 1 v = faddr 1 v := by kernel_rfl
theorem fg29_1 (s : St) (v : V) : vField Tryz.prog s 29 1 v = fget 1 1 false v := by kernel_rfl
theorem sz31 : szOf Tryz.prog 31 = 1 := by kernel_rfl
theorem ag31 : isAgg Tryz.prog 31 = false := by kernel_rfl
theorem ze31 : zero Tryz.prog 31 = some [V.nilfn] := by kernel_rfl
theorem u32 : Tryz.prog.underlying 32 = some (.slice 53) := by kernel_rfl
theorem sz32 : szOf Tryz.prog 32 = 1 := by kernel_rfl
theorem ag32 : isAgg Tryz.prog 32 = false := by kernel_rfl
theorem eo32 : elemOf Tryz.prog 32 = 53 := by kernel_rfl
theorem es32 : elemSz Tryz.prog 32 = 8 := by kernel_rfl
theorem gr32 : growB Tryz.prog 32 = true := by kernel_rfl
theorem df32 : dflt Tryz.prog 32 = V.agg [V.int .i64 0, V.str ⟨#[]⟩, V.str ⟨#[]⟩, V.str ⟨#[]⟩, V.str ⟨#[]⟩, V.int .i64 0, V.str ⟨#[]⟩, V.slc false 3 []] := by kernel_rfl
theorem ze32 : zero Tryz.prog 32 = some [V.slc true 8 []] := by kernel_rfl
theorem sz33 : szOf Tryz.prog 33 = 1 := by kernel_rfl
theorem ag33 : isAgg Tryz.prog 33 = true := by kernel_rfl
theorem ze33 : zero Tryz.prog 33 = some [V.slc true 8 []] := by kernel_rfl
theorem la33 : layOf Tryz.prog 33 = some [(32, 0, 1)] := by kernel_rfl
theorem bd33 (H : Hint) (d : Nat) (ty : TypeId) (ps : Array (Nat × Operand)) (s : St) : evV Tryz.prog H d ty (.build 33 ps) s = aggO (buildL Tryz.prog [(32, 0, 1)] s [V.slc true 8 []] ps.toList) := build_lay la33 ze33
theorem xb33 (H : Hint) (d : Nat) (ty : TypeId) (ps : Array (Nat × Operand)) (pos : String) (aft : Array Edge) (g : Option (Nat × Bool)) : isX Tryz.prog H { dst := some d, op := .build 33 ps, type := ty, pos := pos, after := aft, guard := g } = !memN d H.arrs := by kernel_rfl
theorem fa33_0 (v : V) : vFieldAddr Tryz.prog 33 0 v = faddr 0 v := by kernel_rfl
theorem fg33_0 (s : St) (v : V) : vField Tryz.prog s 33 0 v = fget 0 1 false v := by kernel_rfl
theorem sz34 : szOf Tryz.prog 34 = 1 := by kernel_rfl
theorem ag34 : isAgg Tryz.prog 34 = true := by kernel_rfl
theorem ze34 : zero Tryz.prog 34 = some [V.slc true 8 []] := by kernel_rfl
theorem la34 : layOf Tryz.prog 34 = some [(32, 0, 1)] := by kernel_rfl
theorem bd34 (H : Hint) (d : Nat) (ty : TypeId) (ps : Array (Nat × Operand)) (s : St) : evV Tryz.prog H d ty (.build 34 ps) s = aggO (buildL Tryz.prog [(32, 0, 1)] s [V.slc true 8 []] ps.toList) := build_lay la34 ze34
theorem xb34 (H : Hint) (d : Nat) (ty : TypeId) (ps : Array (Nat × Operand)) (pos : String) (aft : Array Edge) (g : Option (Nat × Bool)) : isX Tryz.prog H { dst := some d, op := .build 34 ps, type := ty, pos := pos, after := aft, guard := g } = !memN d H.arrs := by kernel_rfl
theorem fa34_0 (v : V) : vFieldAddr Tryz.prog 34 0 v = faddr 0 v := by kernel_rfl
theorem fg34_0 (s : St) (v : V) : vField Tryz.prog s 34 0 v = fget 0 1 false v := by kernel_rfl
theorem sz35 : szOf Tryz.prog 35 = 1 := by kernel_rfl
theorem ag35 : isAgg Tryz.prog 35 = false := by kernel_rfl
theorem ze35 : zero Tryz.prog 35 = some [V.nilfn] := by kernel_rfl
theorem sz36 : szOf Tryz.prog 36 = 1 := by kernel_rfl
theorem ag36 : isAgg Tryz.prog 36 = false := by kernel_rfl
theorem ze36 : zero Tryz.prog 36 = some [V.nilfn] := by kernel_rfl
theorem sz37 : szOf Tryz.prog 37 = 1 := by kernel_rfl
theorem ag37 : isAgg Tryz.prog 37 = false := by kernel_rfl
theorem ze37 : zero Tryz.prog 37 = some [V.nilfn] := by kernel_rfl
theorem sz38 : szOf Tryz.prog 38 = 1 := by kernel_rfl
theorem ag38 : isAgg Tryz.prog 38 = false := by kernel_rfl
theorem ze38 : zero Tryz.prog 38 = some [V.nilfn] := by kernel_rfl
theorem sz39 : szOf Tryz.prog 39 = 1 := by kernel_rfl
theorem ag39 : isAgg Tryz.prog 39 = false := by kernel_rfl
theorem ze39 : zero Tryz.prog 39 = some [V.nilfn] := by kernel_rfl
theorem sz40 : szOf Tryz.prog 40 = 1 := by kernel_rfl
theorem ag40 : isAgg Tryz.prog 40 = false := by kernel_rfl
theorem ze40 : zero Tryz.prog 40 = some [V.nilfn] := by kernel_rfl
theorem sz42 : szOf Tryz.prog 42 = 1 := by kernel_rfl
theorem ag42 : isAgg Tryz.prog 42 = false := by kernel_rfl
theorem ze42 : zero Tryz.prog 42 = some [V.nilfn] := by kernel_rfl
theorem sz43 : szOf Tryz.prog 43 = 1 := by kernel_rfl
theorem ag43 : isAgg Tryz.prog 43 = false := by kernel_rfl
theorem ze43 : zero Tryz.prog 43 = some [V.nilfn] := by kernel_rfl
theorem u44 : Tryz.prog.underlying 44 = some (.slice 3) := by kernel_rfl
theorem sz44 : szOf Tryz.prog 44 = 1 := by kernel_rfl
theorem ag44 : isAgg Tryz.prog 44 = false := by kernel_rfl
theorem eo44 : elemOf Tryz.prog 44 = 3 := by kernel_rfl
theorem es44 : elemSz Tryz.prog 44 = 1 := by kernel_rfl
theorem gr44 : growB Tryz.prog 44 = true := by kernel_rfl
theorem df44 : dflt Tryz.prog 44 = V.int .i64 0 := by kernel_rfl
theorem ze44 : zero Tryz.prog 44 = some [V.slc true 1 []] := by kernel_rfl
theorem sz45 : szOf Tryz.prog 45 = 1 := by kernel_rfl
theorem ag45 : isAgg Tryz.prog 45 = false := by kernel_rfl
theorem ze45 : zero Tryz.prog 45 = some [V.nilfn] := by kernel_rfl
theorem sz46 : szOf Tryz.prog 46 = 1 := by kernel_rfl
theorem ag46 : isAgg Tryz.prog 46 = false := by kernel_rfl
theorem ze46 : zero Tryz.prog 46 = some [V.nilfn] := by kernel_rfl
theorem sz47 : szOf Tryz.prog 47 = 3 := by kernel_rfl
theorem ag47 : isAgg Tryz.prog 47 = true := by kernel_rfl
theorem ze47 : zero Tryz.prog 47 = some [V.str ⟨#[]⟩, V.str ⟨#[]⟩, V.str ⟨#[]⟩] := by kernel_rfl
theorem la47 : layOf Tryz.prog 47 = some [(9, 0, 1), (9, 1, 1), (9, 2, 1)] := by kernel_rfl
theorem bd47 (H : Hint) (d : Nat) (ty : TypeId) (ps : Array (Nat × Operand)) (s : St) : evV Tryz.prog H d ty (.build 47 ps) s = aggO (buildL Tryz.prog [(9, 0, 1), (9, 1, 1), (9, 2, 1)] s [V.str ⟨#[]⟩, V.str ⟨#[]⟩, V.str ⟨#[]⟩] ps.toList) := build_lay la47 ze47
theorem xb47 (H : Hint) (d : Nat) (ty : TypeId) (ps : Array (Nat × Operand)) (pos : String) (aft : Array Edge) (g : Option (Nat × Bool)) : isX Tryz.prog H { dst := some d, op := .build 47 ps, type := ty, pos := pos, after := aft, guard := g } = !memN d H.arrs := by kernel_rfl
theorem fa47_0 (v : V) : vFieldAddr Tryz.prog 47 0 v = faddr 0 v := by kernel_rfl
theorem fg47_0 (s : St) (v : V) : vField Tryz.prog s 47 0 v = fget 0 1 false v := by kernel_rfl
theorem fa47_1 (v : V) : vFieldAddr Tryz.prog 47 1 v = faddr 1 v := by kernel_rfl
theorem fg47_1 (s : St) (v : V) : vField Tryz.prog s 47 1 v = fget 1 1 false v := by kernel_rfl
theorem fa47_2 (v : V) : vFieldAddr Tryz.prog 47 2 v = faddr 2 v := by kernel_rfl
theorem fg47_2 (s : St) (v : V) : vField Tryz.prog s 47 2 v = fget 2 1 false v := by kernel_rfl
theorem sz48 : szOf Tryz.prog 48 = 3 := by kernel_rfl
theorem ag48 : isAgg Tryz.prog 48 = true := by kernel_rfl
theorem ze48 : zero Tryz.prog 48 = some [V.str ⟨#[]⟩, V.str ⟨#[]⟩, V.str ⟨#[]⟩] := by kernel_rfl
theorem la48 : layOf Tryz.prog 48 = some [(9, 0, 1), (9, 1, 1), (9, 2, 1)] := by kernel_rfl
theorem bd48 (H : Hint) (d : Nat) (ty : TypeId) (ps : Array (Nat × Operand)) (s : St) : evV Tryz.prog H d ty (.build 48 ps) s = aggO (buildL Tryz.prog [(9, 0, 1), (9, 1, 1), (9, 2, 1)] s [V.str ⟨#[]⟩, V.str ⟨#[]⟩, V.str ⟨#[]⟩] ps.toList) := build_lay la48 ze48
theorem xb48 (H : Hint) (d : Nat) (ty : TypeId) (ps : Array (Nat × Operand)) (pos : String) (aft : Array Edge) (g : Option (Nat × Bool)) : isX Tryz.prog H { dst := some d, op := .build 48 ps, type := ty, pos := pos, after := aft, guard := g } = !memN d H.arrs := by kernel_rfl
theorem fa48_0 (v : V) : vFieldAddr Tryz.prog 48 0 v = faddr 0 v := by kernel_rfl
theorem fg48_0 (s : St) (v : V) : vField Tryz.prog s 48 0 v = fget 0 1 false v := by kernel_rfl
theorem fa48_1 (v : V) : vFieldAddr Tryz.prog 48 1 v = faddr 1 v := by kernel_rfl
theorem fg48_1 (s : St) (v : V) : vField Tryz.prog s 48 1 v = fget 1 1 false v := by kernel_rfl
theorem fa48_2 (v : V) : vFieldAddr Tryz.prog 48 2 v = faddr 2 v := by kernel_rfl
theorem fg48_2 (s : St) (v : V) : vField Tryz.prog s 48 2 v = fget 2 1 false v := by kernel_rfl
theorem ev48 (x0 y0 : ByteArray) (x1 y1 : ByteArray) (x2 y2 : ByteArray) : eqV Tryz.prog 48 (.agg [V.str x0, V.str x1, V.str x2]) (.agg [V.str y0, V.str y1, V.str y2]) = some ((x0.toList == y0.toList) && ((x1.toList == y1.toList) && ((x2.toList == y2.toList) && true))) := by kernel_rfl
theorem eg48 : Tryz.prog.eqGuardType Tryz.prog.depth 48 = false := by kernel_rfl
theorem u49 : Tryz.prog.underlying 49 = some (.slice 51) := by kernel_rfl
theorem sz49 : szOf Tryz.prog 49 = 1 := by kernel_rfl
theorem ag49 : isAgg Tryz.prog 49 = false := by kernel_rfl
theorem eo49 : elemOf Tryz.prog 49 = 51 := by kernel_rfl
theorem es49 : elemSz Tryz.prog 49 = 3 := by kernel_rfl
theorem gr49 : growB Tryz.prog 49 = true := by kernel_rfl
theorem df49 : dflt Tryz.prog 49 = V.agg [V.int .i64 0, V.str ⟨#[]⟩, V.slc false 3 []] := by kernel_rfl
theorem ze49 : zero Tryz.prog 49 = some [V.slc true 3 []] := by kernel_rfl
theorem sz50 : szOf Tryz.prog 50 = 3 := by kernel_rfl
theorem ag50 : isAgg Tryz.prog 50 = true := by kernel_rfl
theorem ze50 : zero Tryz.prog 50 = some [V.int .i64 0, V.str ⟨#[]⟩, V.slc true 3 []] := by kernel_rfl
theorem la50 : layOf Tryz.prog 50 = some [(3, 0, 1), (9, 1, 1), (49, 2, 1)] := by kernel_rfl
theorem bd50 (H : Hint) (d : Nat) (ty : TypeId) (ps : Array (Nat × Operand)) (s : St) : evV Tryz.prog H d ty (.build 50 ps) s = aggO (buildL Tryz.prog [(3, 0, 1), (9, 1, 1), (49, 2, 1)] s [V.int .i64 0, V.str ⟨#[]⟩, V.slc true 3 []] ps.toList) := build_lay la50 ze50
theorem xb50 (H : Hint) (d : Nat) (ty : TypeId) (ps : Array (Nat × Operand)) (pos : String) (aft : Array Edge) (g : Option (Nat × Bool)) : isX Tryz.prog H { dst := some d, op := .build 50 ps, type := ty, pos := pos, after := aft, guard := g } = !memN d H.arrs := by kernel_rfl
theorem fa50_0 (v : V) : vFieldAddr Tryz.prog 50 0 v = faddr 0 v := by kernel_rfl
theorem fg50_0 (s : St) (v : V) : vField Tryz.prog s 50 0 v = fget 0 1 false v := by kernel_rfl
theorem fa50_1 (v : V) : vFieldAddr Tryz.prog 50 1 v = faddr 1 v := by kernel_rfl
theorem fg50_1 (s : St) (v : V) : vField Tryz.prog s 50 1 v = fget 1 1 false v := by kernel_rfl
theorem fa50_2 (v : V) : vFieldAddr Tryz.prog 50 2 v = faddr 2 v := by kernel_rfl
theorem fg50_2 (s : St) (v : V) : vField Tryz.prog s 50 2 v = fget 2 1 false v := by kernel_rfl
theorem sz51 : szOf Tryz.prog 51 = 3 := by kernel_rfl
theorem ag51 : isAgg Tryz.prog 51 = true := by kernel_rfl
theorem ze51 : zero Tryz.prog 51 = some [V.int .i64 0, V.str ⟨#[]⟩, V.slc true 3 []] := by kernel_rfl
theorem la51 : layOf Tryz.prog 51 = some [(3, 0, 1), (9, 1, 1), (49, 2, 1)] := by kernel_rfl
theorem bd51 (H : Hint) (d : Nat) (ty : TypeId) (ps : Array (Nat × Operand)) (s : St) : evV Tryz.prog H d ty (.build 51 ps) s = aggO (buildL Tryz.prog [(3, 0, 1), (9, 1, 1), (49, 2, 1)] s [V.int .i64 0, V.str ⟨#[]⟩, V.slc true 3 []] ps.toList) := build_lay la51 ze51
theorem xb51 (H : Hint) (d : Nat) (ty : TypeId) (ps : Array (Nat × Operand)) (pos : String) (aft : Array Edge) (g : Option (Nat × Bool)) : isX Tryz.prog H { dst := some d, op := .build 51 ps, type := ty, pos := pos, after := aft, guard := g } = !memN d H.arrs := by kernel_rfl
theorem fa51_0 (v : V) : vFieldAddr Tryz.prog 51 0 v = faddr 0 v := by kernel_rfl
theorem fg51_0 (s : St) (v : V) : vField Tryz.prog s 51 0 v = fget 0 1 false v := by kernel_rfl
theorem fa51_1 (v : V) : vFieldAddr Tryz.prog 51 1 v = faddr 1 v := by kernel_rfl
theorem fg51_1 (s : St) (v : V) : vField Tryz.prog s 51 1 v = fget 1 1 false v := by kernel_rfl
theorem fa51_2 (v : V) : vFieldAddr Tryz.prog 51 2 v = faddr 2 v := by kernel_rfl
theorem fg51_2 (s : St) (v : V) : vField Tryz.prog s 51 2 v = fget 2 1 false v := by kernel_rfl
theorem sz52 : szOf Tryz.prog 52 = 8 := by kernel_rfl
theorem ag52 : isAgg Tryz.prog 52 = true := by kernel_rfl
theorem ze52 : zero Tryz.prog 52 = some [V.int .i64 0, V.str ⟨#[]⟩, V.str ⟨#[]⟩, V.str ⟨#[]⟩, V.str ⟨#[]⟩, V.int .i64 0, V.str ⟨#[]⟩, V.slc true 3 []] := by kernel_rfl
theorem la52 : layOf Tryz.prog 52 = some [(3, 0, 1), (9, 1, 1), (48, 2, 3), (51, 5, 3)] := by kernel_rfl
theorem bd52 (H : Hint) (d : Nat) (ty : TypeId) (ps : Array (Nat × Operand)) (s : St) : evV Tryz.prog H d ty (.build 52 ps) s = aggO (buildL Tryz.prog [(3, 0, 1), (9, 1, 1), (48, 2, 3), (51, 5, 3)] s [V.int .i64 0, V.str ⟨#[]⟩, V.str ⟨#[]⟩, V.str ⟨#[]⟩, V.str ⟨#[]⟩, V.int .i64 0, V.str ⟨#[]⟩, V.slc true 3 []] ps.toList) := build_lay la52 ze52
theorem xb52 (H : Hint) (d : Nat) (ty : TypeId) (ps : Array (Nat × Operand)) (pos : String) (aft : Array Edge) (g : Option (Nat × Bool)) : isX Tryz.prog H { dst := some d, op := .build 52 ps, type := ty, pos := pos, after := aft, guard := g } = !memN d H.arrs := by kernel_rfl
theorem fa52_0 (v : V) : vFieldAddr Tryz.prog 52 0 v = faddr 0 v := by kernel_rfl
theorem fg52_0 (s : St) (v : V) : vField Tryz.prog s 52 0 v = fget 0 1 false v := by kernel_rfl
theorem fa52_1 (v : V) : vFieldAddr Tryz.prog 52 1 v = faddr 1 v := by kernel_rfl
theorem fg52_1 (s : St) (v : V) : vField Tryz.prog s 52 1 v = fget 1 1 false v := by kernel_rfl
theorem fa52_2 (v : V) : vFieldAddr Tryz.prog 52 2 v = faddr 2 v := by kernel_rfl
theorem fg52_2 (s : St) (v : V) : vField Tryz.prog s 52 2 v = fget 2 3 true v := by kernel_rfl
theorem fa52_3 (v : V) : vFieldAddr Tryz.prog 52 3 v = faddr 5 v := by kernel_rfl
theorem fg52_3 (s : St) (v : V) : vField Tryz.prog s 52 3 v = fget 5 3 true v := by kernel_rfl
theorem sz53 : szOf Tryz.prog 53 = 8 := by kernel_rfl
theorem ag53 : isAgg Tryz.prog 53 = true := by kernel_rfl
theorem ze53 : zero Tryz.prog 53 = some [V.int .i64 0, V.str ⟨#[]⟩, V.str ⟨#[]⟩, V.str ⟨#[]⟩, V.str ⟨#[]⟩, V.int .i64 0, V.str ⟨#[]⟩, V.slc true 3 []] := by kernel_rfl
theorem la53 : layOf Tryz.prog 53 = some [(3, 0, 1), (9, 1, 1), (48, 2, 3), (51, 5, 3)] := by kernel_rfl
theorem bd53 (H : Hint) (d : Nat) (ty : TypeId) (ps : Array (Nat × Operand)) (s : St) : evV Tryz.prog H d ty (.build 53 ps) s = aggO (buildL Tryz.prog [(3, 0, 1), (9, 1, 1), (48, 2, 3), (51, 5, 3)] s [V.int .i64 0, V.str ⟨#[]⟩, V.str ⟨#[]⟩, V.str ⟨#[]⟩, V.str ⟨#[]⟩, V.int .i64 0, V.str ⟨#[]⟩, V.slc true 3 []] ps.toList) := build_lay la53 ze53
theorem xb53 (H : Hint) (d : Nat) (ty : TypeId) (ps : Array (Nat × Operand)) (pos : String) (aft : Array Edge) (g : Option (Nat × Bool)) : isX Tryz.prog H { dst := some d, op := .build 53 ps, type := ty, pos := pos, after := aft, guard := g } = !memN d H.arrs := by kernel_rfl
theorem fa53_0 (v : V) : vFieldAddr Tryz.prog 53 0 v = faddr 0 v := by kernel_rfl
theorem fg53_0 (s : St) (v : V) : vField Tryz.prog s 53 0 v = fget 0 1 false v := by kernel_rfl
theorem fa53_1 (v : V) : vFieldAddr Tryz.prog 53 1 v = faddr 1 v := by kernel_rfl
theorem fg53_1 (s : St) (v : V) : vField Tryz.prog s 53 1 v = fget 1 1 false v := by kernel_rfl
theorem fa53_2 (v : V) : vFieldAddr Tryz.prog 53 2 v = faddr 2 v := by kernel_rfl
theorem fg53_2 (s : St) (v : V) : vField Tryz.prog s 53 2 v = fget 2 3 true v := by kernel_rfl
theorem fa53_3 (v : V) : vFieldAddr Tryz.prog 53 3 v = faddr 5 v := by kernel_rfl
theorem fg53_3 (s : St) (v : V) : vField Tryz.prog s 53 3 v = fget 5 3 true v := by kernel_rfl
theorem sz54 : szOf Tryz.prog 54 = 1 := by kernel_rfl
theorem ag54 : isAgg Tryz.prog 54 = false := by kernel_rfl
theorem ze54 : zero Tryz.prog 54 = some [V.nilfn] := by kernel_rfl
theorem sz55 : szOf Tryz.prog 55 = 1 := by kernel_rfl
theorem ag55 : isAgg Tryz.prog 55 = false := by kernel_rfl
theorem ze55 : zero Tryz.prog 55 = some [V.nilfn] := by kernel_rfl
theorem sz56 : szOf Tryz.prog 56 = 1 := by kernel_rfl
theorem ag56 : isAgg Tryz.prog 56 = false := by kernel_rfl
theorem ze56 : zero Tryz.prog 56 = some [V.nilfn] := by kernel_rfl
theorem sz57 : szOf Tryz.prog 57 = 1 := by kernel_rfl
theorem ag57 : isAgg Tryz.prog 57 = false := by kernel_rfl
theorem ze57 : zero Tryz.prog 57 = some [V.nilfn] := by kernel_rfl
theorem sz58 : szOf Tryz.prog 58 = 1 := by kernel_rfl
theorem ag58 : isAgg Tryz.prog 58 = false := by kernel_rfl
theorem ze58 : zero Tryz.prog 58 = some [V.nilfn] := by kernel_rfl
theorem sz59 : szOf Tryz.prog 59 = 1 := by kernel_rfl
theorem ag59 : isAgg Tryz.prog 59 = false := by kernel_rfl
theorem ze59 : zero Tryz.prog 59 = some [V.nilfn] := by kernel_rfl
theorem sz60 : szOf Tryz.prog 60 = 1 := by kernel_rfl
theorem ag60 : isAgg Tryz.prog 60 = false := by kernel_rfl
theorem ze60 : zero Tryz.prog 60 = some [V.nilfn] := by kernel_rfl
theorem sz61 : szOf Tryz.prog 61 = 1 := by kernel_rfl
theorem ag61 : isAgg Tryz.prog 61 = false := by kernel_rfl
theorem ze61 : zero Tryz.prog 61 = some [V.nilfn] := by kernel_rfl
theorem sz62 : szOf Tryz.prog 62 = 1 := by kernel_rfl
theorem ag62 : isAgg Tryz.prog 62 = false := by kernel_rfl
theorem ze62 : zero Tryz.prog 62 = some [V.nilfn] := by kernel_rfl
theorem sz63 : szOf Tryz.prog 63 = 1 := by kernel_rfl
theorem ag63 : isAgg Tryz.prog 63 = false := by kernel_rfl
theorem ze63 : zero Tryz.prog 63 = some [V.nilfn] := by kernel_rfl
theorem sz64 : szOf Tryz.prog 64 = 1 := by kernel_rfl
theorem ag64 : isAgg Tryz.prog 64 = false := by kernel_rfl
theorem ze64 : zero Tryz.prog 64 = some [V.nilfn] := by kernel_rfl
theorem sz65 : szOf Tryz.prog 65 = 1 := by kernel_rfl
theorem ag65 : isAgg Tryz.prog 65 = false := by kernel_rfl
theorem ze65 : zero Tryz.prog 65 = some [V.nilfn] := by kernel_rfl
theorem sz66 : szOf Tryz.prog 66 = 1 := by kernel_rfl
theorem ag66 : isAgg Tryz.prog 66 = false := by kernel_rfl
theorem ze66 : zero Tryz.prog 66 = some [V.nilfn] := by kernel_rfl
theorem sz68 : szOf Tryz.prog 68 = 1 := by kernel_rfl
theorem ag68 : isAgg Tryz.prog 68 = false := by kernel_rfl
theorem ze68 : zero Tryz.prog 68 = some [V.nilfn] := by kernel_rfl
theorem sz69 : szOf Tryz.prog 69 = 1 := by kernel_rfl
theorem ag69 : isAgg Tryz.prog 69 = false := by kernel_rfl
theorem ze69 : zero Tryz.prog 69 = some [V.nilfn] := by kernel_rfl
theorem sz70 : szOf Tryz.prog 70 = 3 := by kernel_rfl
theorem ag70 : isAgg Tryz.prog 70 = true := by kernel_rfl
theorem ze70 : zero Tryz.prog 70 = some [V.str ⟨#[]⟩, V.str ⟨#[]⟩, V.str ⟨#[]⟩] := by kernel_rfl
theorem la70 : layOf Tryz.prog 70 = some [(9, 0, 1), (9, 1, 1), (9, 2, 1)] := by kernel_rfl
theorem bd70 (H : Hint) (d : Nat) (ty : TypeId) (ps : Array (Nat × Operand)) (s : St) : evV Tryz.prog H d ty (.build 70 ps) s = aggO (buildL Tryz.prog [(9, 0, 1), (9, 1, 1), (9, 2, 1)] s [V.str ⟨#[]⟩, V.str ⟨#[]⟩, V.str ⟨#[]⟩] ps.toList) := build_lay la70 ze70
theorem xb70 (H : Hint) (d : Nat) (ty : TypeId) (ps : Array (Nat × Operand)) (pos : String) (aft : Array Edge) (g : Option (Nat × Bool)) : isX Tryz.prog H { dst := some d, op := .build 70 ps, type := ty, pos := pos, after := aft, guard := g } = !memN d H.arrs := by kernel_rfl
theorem fa70_0 (v : V) : vFieldAddr Tryz.prog 70 0 v = faddr 0 v := by kernel_rfl
theorem fg70_0 (s : St) (v : V) : vField Tryz.prog s 70 0 v = fget 0 1 false v := by kernel_rfl
theorem fa70_1 (v : V) : vFieldAddr Tryz.prog 70 1 v = faddr 1 v := by kernel_rfl
theorem fg70_1 (s : St) (v : V) : vField Tryz.prog s 70 1 v = fget 1 1 false v := by kernel_rfl
theorem fa70_2 (v : V) : vFieldAddr Tryz.prog 70 2 v = faddr 2 v := by kernel_rfl
theorem fg70_2 (s : St) (v : V) : vField Tryz.prog s 70 2 v = fget 2 1 false v := by kernel_rfl
theorem ev70 (x0 y0 : ByteArray) (x1 y1 : ByteArray) (x2 y2 : ByteArray) : eqV Tryz.prog 70 (.agg [V.str x0, V.str x1, V.str x2]) (.agg [V.str y0, V.str y1, V.str y2]) = some ((x0.toList == y0.toList) && ((x1.toList == y1.toList) && ((x2.toList == y2.toList) && true))) := by kernel_rfl
theorem eg70 : Tryz.prog.eqGuardType Tryz.prog.depth 70 = false := by kernel_rfl
theorem u71 : Tryz.prog.underlying 71 = some (.slice 73) := by kernel_rfl
theorem sz71 : szOf Tryz.prog 71 = 1 := by kernel_rfl
theorem ag71 : isAgg Tryz.prog 71 = false := by kernel_rfl
theorem eo71 : elemOf Tryz.prog 71 = 73 := by kernel_rfl
theorem es71 : elemSz Tryz.prog 71 = 3 := by kernel_rfl
theorem gr71 : growB Tryz.prog 71 = true := by kernel_rfl
theorem df71 : dflt Tryz.prog 71 = V.agg [V.int .i64 0, V.str ⟨#[]⟩, V.slc false 3 []] := by kernel_rfl
theorem ze71 : zero Tryz.prog 71 = some [V.slc true 3 []] := by kernel_rfl
theorem sz72 : szOf Tryz.prog 72 = 3 := by kernel_rfl
theorem ag72 : isAgg Tryz.prog 72 = true := by kernel_rfl
theorem ze72 : zero Tryz.prog 72 = some [V.int .i64 0, V.str ⟨#[]⟩, V.slc true 3 []] := by kernel_rfl
theorem la72 : layOf Tryz.prog 72 = some [(3, 0, 1), (9, 1, 1), (71, 2, 1)] := by kernel_rfl
theorem bd72 (H : Hint) (d : Nat) (ty : TypeId) (ps : Array (Nat × Operand)) (s : St) : evV Tryz.prog H d ty (.build 72 ps) s = aggO (buildL Tryz.prog [(3, 0, 1), (9, 1, 1), (71, 2, 1)] s [V.int .i64 0, V.str ⟨#[]⟩, V.slc true 3 []] ps.toList) := build_lay la72 ze72
theorem xb72 (H : Hint) (d : Nat) (ty : TypeId) (ps : Array (Nat × Operand)) (pos : String) (aft : Array Edge) (g : Option (Nat × Bool)) : isX Tryz.prog H { dst := some d, op := .build 72 ps, type := ty, pos := pos, after := aft, guard := g } = !memN d H.arrs := by kernel_rfl
theorem fa72_0 (v : V) : vFieldAddr Tryz.prog 72 0 v = faddr 0 v := by kernel_rfl
theorem fg72_0 (s : St) (v : V) : vField Tryz.prog s 72 0 v = fget 0 1 false v := by kernel_rfl
theorem fa72_1 (v : V) : vFieldAddr Tryz.prog 72 1 v = faddr 1 v := by kernel_rfl
theorem fg72_1 (s : St) (v : V) : vField Tryz.prog s 72 1 v = fget 1 1 false v := by kernel_rfl
theorem fa72_2 (v : V) : vFieldAddr Tryz.prog 72 2 v = faddr 2 v := by kernel_rfl
theorem fg72_2 (s : St) (v : V) : vField Tryz.prog s 72 2 v = fget 2 1 false v := by kernel_rfl
theorem sz73 : szOf Tryz.prog 73 = 3 := by kernel_rfl
theorem ag73 : isAgg Tryz.prog 73 = true := by kernel_rfl
theorem ze73 : zero Tryz.prog 73 = some [V.int .i64 0, V.str ⟨#[]⟩, V.slc true 3 []] := by kernel_rfl
theorem la73 : layOf Tryz.prog 73 = some [(3, 0, 1), (9, 1, 1), (71, 2, 1)] := by kernel_rfl
theorem bd73 (H : Hint) (d : Nat) (ty : TypeId) (ps : Array (Nat × Operand)) (s : St) : evV Tryz.prog H d ty (.build 73 ps) s = aggO (buildL Tryz.prog [(3, 0, 1), (9, 1, 1), (71, 2, 1)] s [V.int .i64 0, V.str ⟨#[]⟩, V.slc true 3 []] ps.toList) := build_lay la73 ze73
theorem xb73 (H : Hint) (d : Nat) (ty : TypeId) (ps : Array (Nat × Operand)) (pos : String) (aft : Array Edge) (g : Option (Nat × Bool)) : isX Tryz.prog H { dst := some d, op := .build 73 ps, type := ty, pos := pos, after := aft, guard := g } = !memN d H.arrs := by kernel_rfl
theorem fa73_0 (v : V) : vFieldAddr Tryz.prog 73 0 v = faddr 0 v := by kernel_rfl
theorem fg73_0 (s : St) (v : V) : vField Tryz.prog s 73 0 v = fget 0 1 false v := by kernel_rfl
theorem fa73_1 (v : V) : vFieldAddr Tryz.prog 73 1 v = faddr 1 v := by kernel_rfl
theorem fg73_1 (s : St) (v : V) : vField Tryz.prog s 73 1 v = fget 1 1 false v := by kernel_rfl
theorem fa73_2 (v : V) : vFieldAddr Tryz.prog 73 2 v = faddr 2 v := by kernel_rfl
theorem fg73_2 (s : St) (v : V) : vField Tryz.prog s 73 2 v = fget 2 1 false v := by kernel_rfl
theorem sz74 : szOf Tryz.prog 74 = 8 := by kernel_rfl
theorem ag74 : isAgg Tryz.prog 74 = true := by kernel_rfl
theorem ze74 : zero Tryz.prog 74 = some [V.int .i64 0, V.str ⟨#[]⟩, V.str ⟨#[]⟩, V.str ⟨#[]⟩, V.str ⟨#[]⟩, V.int .i64 0, V.str ⟨#[]⟩, V.slc true 3 []] := by kernel_rfl
theorem la74 : layOf Tryz.prog 74 = some [(3, 0, 1), (9, 1, 1), (70, 2, 3), (73, 5, 3)] := by kernel_rfl
theorem bd74 (H : Hint) (d : Nat) (ty : TypeId) (ps : Array (Nat × Operand)) (s : St) : evV Tryz.prog H d ty (.build 74 ps) s = aggO (buildL Tryz.prog [(3, 0, 1), (9, 1, 1), (70, 2, 3), (73, 5, 3)] s [V.int .i64 0, V.str ⟨#[]⟩, V.str ⟨#[]⟩, V.str ⟨#[]⟩, V.str ⟨#[]⟩, V.int .i64 0, V.str ⟨#[]⟩, V.slc true 3 []] ps.toList) := build_lay la74 ze74
theorem xb74 (H : Hint) (d : Nat) (ty : TypeId) (ps : Array (Nat × Operand)) (pos : String) (aft : Array Edge) (g : Option (Nat × Bool)) : isX Tryz.prog H { dst := some d, op := .build 74 ps, type := ty, pos := pos, after := aft, guard := g } = !memN d H.arrs := by kernel_rfl
theorem fa74_0 (v : V) : vFieldAddr Tryz.prog 74 0 v = faddr 0 v := by kernel_rfl
theorem fg74_0 (s : St) (v : V) : vField Tryz.prog s 74 0 v = fget 0 1 false v := by kernel_rfl
theorem fa74_1 (v : V) : vFieldAddr Tryz.prog 74 1 v = faddr 1 v := by kernel_rfl
theorem fg74_1 (s : St) (v : V) : vField Tryz.prog s 74 1 v = fget 1 1 false v := by kernel_rfl
theorem fa74_2 (v : V) : vFieldAddr Tryz.prog 74 2 v = faddr 2 v := by kernel_rfl
theorem fg74_2 (s : St) (v : V) : vField Tryz.prog s 74 2 v = fget 2 3 true v := by kernel_rfl
theorem fa74_3 (v : V) : vFieldAddr Tryz.prog 74 3 v = faddr 5 v := by kernel_rfl
theorem fg74_3 (s : St) (v : V) : vField Tryz.prog s 74 3 v = fget 5 3 true v := by kernel_rfl
theorem sz75 : szOf Tryz.prog 75 = 8 := by kernel_rfl
theorem ag75 : isAgg Tryz.prog 75 = true := by kernel_rfl
theorem ze75 : zero Tryz.prog 75 = some [V.int .i64 0, V.str ⟨#[]⟩, V.str ⟨#[]⟩, V.str ⟨#[]⟩, V.str ⟨#[]⟩, V.int .i64 0, V.str ⟨#[]⟩, V.slc true 3 []] := by kernel_rfl
theorem la75 : layOf Tryz.prog 75 = some [(3, 0, 1), (9, 1, 1), (70, 2, 3), (73, 5, 3)] := by kernel_rfl
theorem bd75 (H : Hint) (d : Nat) (ty : TypeId) (ps : Array (Nat × Operand)) (s : St) : evV Tryz.prog H d ty (.build 75 ps) s = aggO (buildL Tryz.prog [(3, 0, 1), (9, 1, 1), (70, 2, 3), (73, 5, 3)] s [V.int .i64 0, V.str ⟨#[]⟩, V.str ⟨#[]⟩, V.str ⟨#[]⟩, V.str ⟨#[]⟩, V.int .i64 0, V.str ⟨#[]⟩, V.slc true 3 []] ps.toList) := build_lay la75 ze75
theorem xb75 (H : Hint) (d : Nat) (ty : TypeId) (ps : Array (Nat × Operand)) (pos : String) (aft : Array Edge) (g : Option (Nat × Bool)) : isX Tryz.prog H { dst := some d, op := .build 75 ps, type := ty, pos := pos, after := aft, guard := g } = !memN d H.arrs := by kernel_rfl
theorem fa75_0 (v : V) : vFieldAddr Tryz.prog 75 0 v = faddr 0 v := by kernel_rfl
theorem fg75_0 (s : St) (v : V) : vField Tryz.prog s 75 0 v = fget 0 1 false v := by kernel_rfl
theorem fa75_1 (v : V) : vFieldAddr Tryz.prog 75 1 v = faddr 1 v := by kernel_rfl
theorem fg75_1 (s : St) (v : V) : vField Tryz.prog s 75 1 v = fget 1 1 false v := by kernel_rfl
theorem fa75_2 (v : V) : vFieldAddr Tryz.prog 75 2 v = faddr 2 v := by kernel_rfl
theorem fg75_2 (s : St) (v : V) : vField Tryz.prog s 75 2 v = fget 2 3 true v := by kernel_rfl
theorem fa75_3 (v : V) : vFieldAddr Tryz.prog 75 3 v = faddr 5 v := by kernel_rfl
theorem fg75_3 (s : St) (v : V) : vField Tryz.prog s 75 3 v = fget 5 3 true v := by kernel_rfl
theorem sz76 : szOf Tryz.prog 76 = 1 := by kernel_rfl
theorem ag76 : isAgg Tryz.prog 76 = false := by kernel_rfl
theorem ze76 : zero Tryz.prog 76 = some [V.nilfn] := by kernel_rfl
theorem sz77 : szOf Tryz.prog 77 = 1 := by kernel_rfl
theorem ag77 : isAgg Tryz.prog 77 = false := by kernel_rfl
theorem ze77 : zero Tryz.prog 77 = some [V.nilfn] := by kernel_rfl
theorem sz78 : szOf Tryz.prog 78 = 1 := by kernel_rfl
theorem ag78 : isAgg Tryz.prog 78 = false := by kernel_rfl
theorem ze78 : zero Tryz.prog 78 = some [V.nilfn] := by kernel_rfl
theorem sz79 : szOf Tryz.prog 79 = 1 := by kernel_rfl
theorem ag79 : isAgg Tryz.prog 79 = false := by kernel_rfl
theorem ze79 : zero Tryz.prog 79 = some [V.nilfn] := by kernel_rfl
theorem sz80 : szOf Tryz.prog 80 = 1 := by kernel_rfl
theorem ag80 : isAgg Tryz.prog 80 = false := by kernel_rfl
theorem ze80 : zero Tryz.prog 80 = some [V.nilfn] := by kernel_rfl
theorem sz81 : szOf Tryz.prog 81 = 1 := by kernel_rfl
theorem ag81 : isAgg Tryz.prog 81 = false := by kernel_rfl
theorem ze81 : zero Tryz.prog 81 = some [V.nilfn] := by kernel_rfl
theorem sz82 : szOf Tryz.prog 82 = 1 := by kernel_rfl
theorem ag82 : isAgg Tryz.prog 82 = false := by kernel_rfl
theorem ze82 : zero Tryz.prog 82 = some [V.nilfn] := by kernel_rfl
theorem sz83 : szOf Tryz.prog 83 = 1 := by kernel_rfl
theorem ag83 : isAgg Tryz.prog 83 = false := by kernel_rfl
theorem ze83 : zero Tryz.prog 83 = some [V.nilfn] := by kernel_rfl
theorem sz84 : szOf Tryz.prog 84 = 1 := by kernel_rfl
theorem ag84 : isAgg Tryz.prog 84 = false := by kernel_rfl
theorem ze84 : zero Tryz.prog 84 = some [V.nilfn] := by kernel_rfl
theorem u85 : Tryz.prog.underlying 85 = some (.slice 88) := by kernel_rfl
theorem sz85 : szOf Tryz.prog 85 = 1 := by kernel_rfl
theorem ag85 : isAgg Tryz.prog 85 = false := by kernel_rfl
theorem eo85 : elemOf Tryz.prog 85 = 88 := by kernel_rfl
theorem es85 : elemSz Tryz.prog 85 = 2 := by kernel_rfl
theorem gr85 : growB Tryz.prog 85 = true := by kernel_rfl
theorem df85 : dflt Tryz.prog 85 = V.agg [V.int .i64 0, V.int .i64 0] := by kernel_rfl
theorem ze85 : zero Tryz.prog 85 = some [V.slc true 2 []] := by kernel_rfl
theorem sz87 : szOf Tryz.prog 87 = 1 := by kernel_rfl
theorem ag87 : isAgg Tryz.prog 87 = false := by kernel_rfl
theorem ze87 : zero Tryz.prog 87 = some [V.nilfn] := by kernel_rfl
theorem xa88 (H : Hint) (d : Nat) (ty : TypeId) (ps : Array (Nat × Operand)) (pos : String) (aft : Array Edge) (g : Option (Nat × Bool)) : isX Tryz.prog H { dst := some d, op := .build 88 ps, type := ty, pos := pos, after := aft, guard := g } = memN d H.arrs := by kernel_rfl
theorem u88 : Tryz.prog.underlying 88 = some (.array 2 3) := by kernel_rfl
theorem sz88 : szOf Tryz.prog 88 = 2 := by kernel_rfl
theorem ag88 : isAgg Tryz.prog 88 = true := by kernel_rfl
theorem eo88 : elemOf Tryz.prog 88 = 3 := by kernel_rfl
theorem es88 : elemSz Tryz.prog 88 = 1 := by kernel_rfl
theorem ze88 : zero Tryz.prog 88 = some [V.int .i64 0, V.int .i64 0] := by kernel_rfl
theorem sz89 : szOf Tryz.prog 89 = 1 := by kernel_rfl
theorem ag89 : isAgg Tryz.prog 89 = false := by kernel_rfl
theorem ze89 : zero Tryz.prog 89 = some [V.nilfn] := by kernel_rfl
theorem sz90 : szOf Tryz.prog 90 = 1 := by kernel_rfl
theorem ag90 : isAgg Tryz.prog 90 = false := by kernel_rfl
theorem ze90 : zero Tryz.prog 90 = some [V.nilfn] := by kernel_rfl
theorem sz91 : szOf Tryz.prog 91 = 1 := by kernel_rfl
theorem ag91 : isAgg Tryz.prog 91 = false := by kernel_rfl
theorem ze91 : zero Tryz.prog 91 = some [V.nilfn] := by kernel_rfl
theorem sz92 : szOf Tryz.prog 92 = 1 := by kernel_rfl
theorem ag92 : isAgg Tryz.prog 92 = false := by kernel_rfl
theorem ze92 : zero Tryz.prog 92 = some [V.nilfn] := by kernel_rfl
theorem sz93 : szOf Tryz.prog 93 = 1 := by kernel_rfl
theorem ag93 : isAgg Tryz.prog 93 = false := by kernel_rfl
theorem ze93 : zero Tryz.prog 93 = some [V.nilfn] := by kernel_rfl
theorem sz94 : szOf Tryz.prog 94 = 1 := by kernel_rfl
theorem ag94 : isAgg Tryz.prog 94 = false := by kernel_rfl
theorem ze94 : zero Tryz.prog 94 = some [V.nilfn] := by kernel_rfl
theorem sz95 : szOf Tryz.prog 95 = 1 := by kernel_rfl
theorem ag95 : isAgg Tryz.prog 95 = false := by kernel_rfl
theorem ze95 : zero Tryz.prog 95 = some [V.nilfn] := by kernel_rfl
theorem sz96 : szOf Tryz.prog 96 = 1 := by kernel_rfl
theorem ag96 : isAgg Tryz.prog 96 = false := by kernel_rfl
theorem ze96 : zero Tryz.prog 96 = some [V.nilfn] := by kernel_rfl
theorem sz97 : szOf Tryz.prog 97 = 1 := by kernel_rfl
theorem ag97 : isAgg Tryz.prog 97 = false := by kernel_rfl
theorem ze97 : zero Tryz.prog 97 = some [V.nilfn] := by kernel_rfl
theorem sz98 : szOf Tryz.prog 98 = 1 := by kernel_rfl
theorem ag98 : isAgg Tryz.prog 98 = false := by kernel_rfl
theorem ze98 : zero Tryz.prog 98 = some [V.nilfn] := by kernel_rfl
theorem sz99 : szOf Tryz.prog 99 = 1 := by kernel_rfl
theorem ag99 : isAgg Tryz.prog 99 = false := by kernel_rfl
theorem ze99 : zero Tryz.prog 99 = some [V.nilfn] := by kernel_rfl
theorem sz100 : szOf Tryz.prog 100 = 1 := by kernel_rfl
theorem ag100 : isAgg Tryz.prog 100 = false := by kernel_rfl
theorem ze100 : zero Tryz.prog 100 = some [V.nilfn] := by kernel_rfl
theorem sz101 : szOf Tryz.prog 101 = 1 := by kernel_rfl
theorem ag101 : isAgg Tryz.prog 101 = false := by kernel_rfl
theorem ze101 : zero Tryz.prog 101 = some [V.nilfn] := by kernel_rfl
theorem sz102 : szOf Tryz.prog 102 = 1 := by kernel_rfl
theorem ag102 : isAgg Tryz.prog 102 = false := by kernel_rfl
theorem ze102 : zero Tryz.prog 102 = some [V.nilfn] := by kernel_rfl
theorem sz104 : szOf Tryz.prog 104 = 1 := by kernel_rfl
theorem ag104 : isAgg Tryz.prog 104 = false := by kernel_rfl
theorem ze104 : zero Tryz.prog 104 = some [V.nilfn] := by kernel_rfl
theorem sz105 : szOf Tryz.prog 105 = 1 := by kernel_rfl
theorem ag105 : isAgg Tryz.prog 105 = false := by kernel_rfl
theorem ze105 : zero Tryz.prog 105 = some [V.nilfn] := by kernel_rfl
theorem sz106 : szOf Tryz.prog 106 = 1 := by kernel_rfl
theorem ag106 : isAgg Tryz.prog 106 = false := by kernel_rfl
theorem ze106 : zero Tryz.prog 106 = some [V.nilfn] := by kernel_rfl
theorem sz107 : szOf Tryz.prog 107 = 1 := by kernel_rfl
theorem ag107 : isAgg Tryz.prog 107 = false := by kernel_rfl
theorem ze107 : zero Tryz.prog 107 = some [V.nilfn] := by kernel_rfl
theorem sz108 : szOf Tryz.prog 108 = 1 := by kernel_rfl
theorem ag108 : isAgg Tryz.prog 108 = false := by kernel_rfl
theorem ze108 : zero Tryz.prog 108 = some [V.nilfn] := by kernel_rfl
theorem sz109 : szOf Tryz.prog 109 = 1 := by kernel_rfl
theorem ag109 : isAgg Tryz.prog 109 = false := by kernel_rfl
theorem ze109 : zero Tryz.prog 109 = some [V.nilfn] := by kernel_rfl
theorem sz110 : szOf Tryz.prog 110 = 1 := by kernel_rfl
theorem ag110 : isAgg Tryz.prog 110 = false := by kernel_rfl
theorem ze110 : zero Tryz.prog 110 = some [V.nilfn] := by kernel_rfl
theorem sz111 : szOf Tryz.prog 111 = 1 := by kernel_rfl
theorem ag111 : isAgg Tryz.prog 111 = false := by kernel_rfl
theorem ze111 : zero Tryz.prog 111 = some [V.nilfn] := by kernel_rfl
theorem sz112 : szOf Tryz.prog 112 = 1 := by kernel_rfl
theorem ag112 : isAgg Tryz.prog 112 = false := by kernel_rfl
theorem ze112 : zero Tryz.prog 112 = some [V.nilfn] := by kernel_rfl
theorem u113 : Tryz.prog.underlying 113 = some (.map 3 3) := by kernel_rfl
theorem sz113 : szOf Tryz.prog 113 = 1 := by kernel_rfl
theorem ag113 : isAgg Tryz.prog 113 = false := by kernel_rfl
theorem u114 : Tryz.prog.underlying 114 = some (.map 115 3) := by kernel_rfl
theorem sz114 : szOf Tryz.prog 114 = 1 := by kernel_rfl
theorem ag114 : isAgg Tryz.prog 114 = false := by kernel_rfl
theorem xa115 (H : Hint) (d : Nat) (ty : TypeId) (ps : Array (Nat × Operand)) (pos : String) (aft : Array Edge) (g : Option (Nat × Bool)) : isX Tryz.prog H { dst := some d, op := .build 115 ps, type := ty, pos := pos, after := aft, guard := g } = memN d H.arrs := by kernel_rfl
theorem u115 : Tryz.prog.underlying 115 = some (.array 4 3) := by kernel_rfl
theorem sz115 : szOf Tryz.prog 115 = 4 := by kernel_rfl
theorem ag115 : isAgg Tryz.prog 115 = true := by kernel_rfl
theorem eo115 : elemOf Tryz.prog 115 = 3 := by kernel_rfl
theorem es115 : elemSz Tryz.prog 115 = 1 := by kernel_rfl
theorem ze115 : zero Tryz.prog 115 = some [V.int .i64 0, V.int .i64 0, V.int .i64 0, V.int .i64 0] := by kernel_rfl
theorem sz116 : szOf Tryz.prog 116 = 1 := by kernel_rfl
theorem ag116 : isAgg Tryz.prog 116 = false := by kernel_rfl
theorem ze116 : zero Tryz.prog 116 = some [V.nilfn] := by kernel_rfl
theorem u117 : Tryz.prog.underlying 117 = some (.slice 9) := by kernel_rfl
theorem sz117 : szOf Tryz.prog 117 = 1 := by kernel_rfl
theorem ag117 : isAgg Tryz.prog 117 = false := by kernel_rfl
theorem eo117 : elemOf Tryz.prog 117 = 9 := by kernel_rfl
theorem es117 : elemSz Tryz.prog 117 = 1 := by kernel_rfl
theorem gr117 : growB Tryz.prog 117 = true := by kernel_rfl
theorem df117 : dflt Tryz.prog 117 = V.str ⟨#[]⟩ := by kernel_rfl
theorem ze117 : zero Tryz.prog 117 = some [V.slc true 1 []] := by kernel_rfl
theorem sz118 : szOf Tryz.prog 118 = 1 := by kernel_rfl
theorem ag118 : isAgg Tryz.prog 118 = false := by kernel_rfl
theorem ze118 : zero Tryz.prog 118 = some [V.nilfn] := by kernel_rfl
theorem u119 : Tryz.prog.underlying 119 = some (.slice 29) := by kernel_rfl
theorem sz119 : szOf Tryz.prog 119 = 1 := by kernel_rfl
theorem ag119 : isAgg Tryz.prog 119 = false := by kernel_rfl
theorem eo119 : elemOf Tryz.prog 119 = 29 := by kernel_rfl
theorem es119 : elemSz Tryz.prog 119 = 2 := by kernel_rfl
theorem gr119 : growB Tryz.prog 119 = true := by kernel_rfl
theorem df119 : dflt Tryz.prog 119 = V.agg [V.slc false 1 [], V.slc false 1 []] := by kernel_rfl
theorem ze119 : zero Tryz.prog 119 = some [V.slc true 2 []] := by kernel_rfl
theorem sz120 : szOf Tryz.prog 120 = 1 := by kernel_rfl
theorem ag120 : isAgg Tryz.prog 120 = false := by kernel_rfl
theorem ze120 : zero Tryz.prog 120 = some [V.nilfn] := by kernel_rfl
theorem sz121 : szOf Tryz.prog 121 = 1 := by kernel_rfl
theorem ag121 : isAgg Tryz.prog 121 = false := by kernel_rfl
theorem ze121 : zero Tryz.prog 121 = some [V.nilfn] := by kernel_rfl
theorem u122 : Tryz.prog.underlying 122 = some (.map 88 3) := by kernel_rfl
theorem sz122 : szOf Tryz.prog 122 = 1 := by kernel_rfl
theorem ag122 : isAgg Tryz.prog 122 = false := by kernel_rfl
theorem sz123 : szOf Tryz.prog 123 = 1 := by kernel_rfl
theorem ag123 : isAgg Tryz.prog 123 = false := by kernel_rfl
theorem ze123 : zero Tryz.prog 123 = some [V.nilfn] := by kernel_rfl
theorem sz124 : szOf Tryz.prog 124 = 1 := by kernel_rfl
theorem ag124 : isAgg Tryz.prog 124 = false := by kernel_rfl
theorem ze124 : zero Tryz.prog 124 = some [V.nilfn] := by kernel_rfl
theorem u125 : Tryz.prog.underlying 125 = some (.slice 5) := by kernel_rfl
theorem sz125 : szOf Tryz.prog 125 = 1 := by kernel_rfl
theorem ag125 : isAgg Tryz.prog 125 = false := by kernel_rfl
theorem eo125 : elemOf Tryz.prog 125 = 5 := by kernel_rfl
theorem es125 : elemSz Tryz.prog 125 = 1 := by kernel_rfl
theorem gr125 : growB Tryz.prog 125 = true := by kernel_rfl
theorem df125 : dflt Tryz.prog 125 = V.int .u8 0 := by kernel_rfl
theorem ze125 : zero Tryz.prog 125 = some [V.slc true 1 []] := by kernel_rfl
theorem sz126 : szOf Tryz.prog 126 = 1 := by kernel_rfl
theorem ag126 : isAgg Tryz.prog 126 = false := by kernel_rfl
theorem ze126 : zero Tryz.prog 126 = some [V.nilfn] := by kernel_rfl
theorem sz127 : szOf Tryz.prog 127 = 1 := by kernel_rfl
theorem ag127 : isAgg Tryz.prog 127 = false := by kernel_rfl
theorem ze127 : zero Tryz.prog 127 = some [V.nilfn] := by kernel_rfl
theorem sz128 : szOf Tryz.prog 128 = 1 := by kernel_rfl
theorem ag128 : isAgg Tryz.prog 128 = false := by kernel_rfl
theorem ze128 : zero Tryz.prog 128 = some [V.nilfn] := by kernel_rfl
theorem sz129 : szOf Tryz.prog 129 = 1 := by kernel_rfl
theorem ag129 : isAgg Tryz.prog 129 = false := by kernel_rfl
theorem ze129 : zero Tryz.prog 129 = some [V.nilfn] := by kernel_rfl
theorem sz130 : szOf Tryz.prog 130 = 1 := by kernel_rfl
theorem ag130 : isAgg Tryz.prog 130 = false := by kernel_rfl
theorem ze130 : zero Tryz.prog 130 = some [V.nilfn] := by kernel_rfl
theorem sz131 : szOf Tryz.prog 131 = 1 := by kernel_rfl
theorem ag131 : isAgg Tryz.prog 131 = false := by kernel_rfl
theorem ze131 : zero Tryz.prog 131 = some [V.nilfn] := by kernel_rfl
theorem sz132 : szOf Tryz.prog 132 = 1 := by kernel_rfl
theorem ag132 : isAgg Tryz.prog 132 = false := by kernel_rfl
theorem ze132 : zero Tryz.prog 132 = some [V.nilfn] := by kernel_rfl
theorem sz133 : szOf Tryz.prog 133 = 1 := by kernel_rfl
theorem ag133 : isAgg Tryz.prog 133 = false := by kernel_rfl
theorem ze133 : zero Tryz.prog 133 = some [V.nilfn] := by kernel_rfl
theorem sz134 : szOf Tryz.prog 134 = 1 := by kernel_rfl
theorem ag134 : isAgg Tryz.prog 134 = false := by kernel_rfl
theorem ze134 : zero Tryz.prog 134 = some [V.nilfn] := by kernel_rfl
theorem u135 : Tryz.prog.underlying 135 = some (.int .u64) := by kernel_rfl
theorem sz135 : szOf Tryz.prog 135 = 1 := by kernel_rfl
theorem ag135 : isAgg Tryz.prog 135 = false := by kernel_rfl
theorem ze135 : zero Tryz.prog 135 = some [V.int .u64 0] := by kernel_rfl
theorem sz136 : szOf Tryz.prog 136 = 2 := by kernel_rfl
theorem ag136 : isAgg Tryz.prog 136 = true := by kernel_rfl
theorem ze136 : zero Tryz.prog 136 = some [V.int .i64 0, V.int .u64 0] := by kernel_rfl
theorem la136 : layOf Tryz.prog 136 = some [(3, 0, 1), (135, 1, 1)] := by kernel_rfl
theorem bd136 (H : Hint) (d : Nat) (ty : TypeId) (ps : Array (Nat × Operand)) (s : St) : evV Tryz.prog H d ty (.build 136 ps) s = aggO (buildL Tryz.prog [(3, 0, 1), (135, 1, 1)] s [V.int .i64 0, V.int .u64 0] ps.toList) := build_lay la136 ze136
theorem xb136 (H : Hint) (d : Nat) (ty : TypeId) (ps : Array (Nat × Operand)) (pos : String) (aft : Array Edge) (g : Option (Nat × Bool)) : isX Tryz.prog H { dst := some d, op := .build 136 ps, type := ty, pos := pos, after := aft, guard := g } = !memN d H.arrs := by kernel_rfl
theorem fa136_0 (v : V) : vFieldAddr Tryz.prog 136 0 v = faddr 0 v := by kernel_rfl
theorem fg136_0 (s : St) (v : V) : vField Tryz.prog s 136 0 v = fget 0 1 false v := by kernel_rfl
theorem fa136_1 (v : V) : vFieldAddr Tryz.prog 136 1 v = faddr 1 v := by kernel_rfl
theorem fg136_1 (s : St) (v : V) : vField Tryz.prog s 136 1 v = fget 1 1 false v := by kernel_rfl
theorem ev136 (x0 y0 : Int) (x1 y1 : Int) : eqV Tryz.prog 136 (.agg [V.int .i64 x0, V.int .u64 x1]) (.agg [V.int .i64 y0, V.int .u64 y1]) = some ((x0 == y0) && ((x1 == y1) && true)) := by kernel_rfl
theorem eg136 : Tryz.prog.eqGuardType Tryz.prog.depth 136 = false := by kernel_rfl
theorem sz137 : szOf Tryz.prog 137 = 2 := by kernel_rfl
theorem ag137 : isAgg Tryz.prog 137 = true := by kernel_rfl
theorem ze137 : zero Tryz.prog 137 = some [V.int .i64 0, V.int .u64 0] := by kernel_rfl
theorem la137 : layOf Tryz.prog 137 = some [(3, 0, 1), (135, 1, 1)] := by kernel_rfl
theorem bd137 (H : Hint) (d : Nat) (ty : TypeId) (ps : Array (Nat × Operand)) (s : St) : evV Tryz.prog H d ty (.build 137 ps) s = aggO (buildL Tryz.prog [(3, 0, 1), (135, 1, 1)] s [V.int .i64 0, V.int .u64 0] ps.toList) := build_lay la137 ze137
theorem xb137 (H : Hint) (d : Nat) (ty : TypeId) (ps : Array (Nat × Operand)) (pos : String) (aft : Array Edge) (g : Option (Nat × Bool)) : isX Tryz.prog H { dst := some d, op := .build 137 ps, type := ty, pos := pos, after := aft, guard := g } = !memN d H.arrs := by kernel_rfl
theorem fa137_0 (v : V) : vFieldAddr Tryz.prog 137 0 v = faddr 0 v := by kernel_rfl
theorem fg137_0 (s : St) (v : V) : vField Tryz.prog s 137 0 v = fget 0 1 false v := by kernel_rfl
theorem fa137_1 (v : V) : vFieldAddr Tryz.prog 137 1 v = faddr 1 v := by kernel_rfl
theorem fg137_1 (s : St) (v : V) : vField Tryz.prog s 137 1 v = fget 1 1 false v := by kernel_rfl
theorem ev137 (x0 y0 : Int) (x1 y1 : Int) : eqV Tryz.prog 137 (.agg [V.int .i64 x0, V.int .u64 x1]) (.agg [V.int .i64 y0, V.int .u64 y1]) = some ((x0 == y0) && ((x1 == y1) && true)) := by kernel_rfl
theorem eg137 : Tryz.prog.eqGuardType Tryz.prog.depth 137 = false := by kernel_rfl
theorem sz138 : szOf Tryz.prog 138 = 1 := by kernel_rfl
theorem ag138 : isAgg Tryz.prog 138 = false := by kernel_rfl
theorem ze138 : zero Tryz.prog 138 = some [V.nilfn] := by kernel_rfl
theorem u139 : Tryz.prog.underlying 139 = some (.slice 137) := by kernel_rfl
theorem sz139 : szOf Tryz.prog 139 = 1 := by kernel_rfl
theorem ag139 : isAgg Tryz.prog 139 = false := by kernel_rfl
theorem eo139 : elemOf Tryz.prog 139 = 137 := by kernel_rfl
theorem es139 : elemSz Tryz.prog 139 = 2 := by kernel_rfl
theorem gr139 : growB Tryz.prog 139 = true := by kernel_rfl
theorem df139 : dflt Tryz.prog 139 = V.agg [V.int .i64 0, V.int .u64 0] := by kernel_rfl
theorem ze139 : zero Tryz.prog 139 = some [V.slc true 2 []] := by kernel_rfl
theorem sz141 : szOf Tryz.prog 141 = 1 := by kernel_rfl
theorem ag141 : isAgg Tryz.prog 141 = false := by kernel_rfl
theorem ze141 : zero Tryz.prog 141 = some [V.nilfn] := by kernel_rfl
theorem sz142 : szOf Tryz.prog 142 = 1 := by kernel_rfl
theorem ag142 : isAgg Tryz.prog 142 = false := by kernel_rfl
theorem ze142 : zero Tryz.prog 142 = some [V.nilfn] := by kernel_rfl
theorem sz143 : szOf Tryz.prog 143 = 1 := by kernel_rfl
theorem ag143 : isAgg Tryz.prog 143 = false := by kernel_rfl
theorem ze143 : zero Tryz.prog 143 = some [V.nilfn] := by kernel_rfl
theorem sz144 : szOf Tryz.prog 144 = 1 := by kernel_rfl
theorem ag144 : isAgg Tryz.prog 144 = false := by kernel_rfl
theorem ze144 : zero Tryz.prog 144 = some [V.nilfn] := by kernel_rfl
theorem sz145 : szOf Tryz.prog 145 = 1 := by kernel_rfl
theorem ag145 : isAgg Tryz.prog 145 = false := by kernel_rfl
theorem ze145 : zero Tryz.prog 145 = some [V.nilfn] := by kernel_rfl
theorem sz146 : szOf Tryz.prog 146 = 1 := by kernel_rfl
theorem ag146 : isAgg Tryz.prog 146 = false := by kernel_rfl
theorem ze146 : zero Tryz.prog 146 = some [V.nilfn] := by kernel_rfl
theorem sz147 : szOf Tryz.prog 147 = 1 := by kernel_rfl
theorem ag147 : isAgg Tryz.prog 147 = false := by kernel_rfl
theorem ze147 : zero Tryz.prog 147 = some [V.nilfn] := by kernel_rfl
theorem sz148 : szOf Tryz.prog 148 = 1 := by kernel_rfl
theorem ag148 : isAgg Tryz.prog 148 = false := by kernel_rfl
theorem ze148 : zero Tryz.prog 148 = some [V.nilfn] := by kernel_rfl
theorem sz149 : szOf Tryz.prog 149 = 3 := by kernel_rfl
theorem ag149 : isAgg Tryz.prog 149 = true := by kernel_rfl
theorem ze149 : zero Tryz.prog 149 = some [V.int .i64 0, V.slc true 1 [], V.bool false] := by kernel_rfl
theorem la149 : layOf Tryz.prog 149 = some [(3, 0, 1), (44, 1, 1), (4, 2, 1)] := by kernel_rfl
theorem bd149 (H : Hint) (d : Nat) (ty : TypeId) (ps : Array (Nat × Operand)) (s : St) : evV Tryz.prog H d ty (.build 149 ps) s = aggO (buildL Tryz.prog [(3, 0, 1), (44, 1, 1), (4, 2, 1)] s [V.int .i64 0, V.slc true 1 [], V.bool false] ps.toList) := build_lay la149 ze149
theorem xb149 (H : Hint) (d : Nat) (ty : TypeId) (ps : Array (Nat × Operand)) (pos : String) (aft : Array Edge) (g : Option (Nat × Bool)) : isX Tryz.prog H { dst := some d, op := .build 149 ps, type := ty, pos := pos, after := aft, guard := g } = !memN d H.arrs := by kernel_rfl
theorem fa149_0 (v : V) : vFieldAddr Tryz.prog 149 0 v = faddr 0 v := by kernel_rfl
theorem fg149_0 (s : St) (v : V) : vField Tryz.prog s 149 0 v = fget 0 1 false v := by kernel_rfl
theorem fa149_1 (v : V) : vFieldAddr Tryz.prog 149 1 v = faddr 1 v := by kernel_rfl
theorem fg149_1 (s : St) (v : V) : vField Tryz.prog s 149 1 v = fget 1 1 false v := by kernel_rfl
theorem fa149_2 (v : V) : vFieldAddr Tryz.prog 149 2 v = faddr 2 v := by kernel_rfl
theorem fg149_2 (s : St) (v : V) : vField Tryz.prog s 149 2 v = fget 2 1 false v := by kernel_rfl
theorem sz150 : szOf Tryz.prog 150 = 3 := by kernel_rfl
theorem ag150 : isAgg Tryz.prog 150 = true := by kernel_rfl
theorem ze150 : zero Tryz.prog 150 = some [V.int .i64 0, V.slc true 1 [], V.bool false] := by kernel_rfl
theorem la150 : layOf Tryz.prog 150 = some [(3, 0, 1), (44, 1, 1), (4, 2, 1)] := by kernel_rfl
theorem bd150 (H : Hint) (d : Nat) (ty : TypeId) (ps : Array (Nat × Operand)) (s : St) : evV Tryz.prog H d ty (.build 150 ps) s = aggO (buildL Tryz.prog [(3, 0, 1), (44, 1, 1), (4, 2, 1)] s [V.int .i64 0, V.slc true 1 [], V.bool false] ps.toList) := build_lay la150 ze150
theorem xb150 (H : Hint) (d : Nat) (ty : TypeId) (ps : Array (Nat × Operand)) (pos : String) (aft : Array Edge) (g : Option (Nat × Bool)) : isX Tryz.prog H { dst := some d, op := .build 150 ps, type := ty, pos := pos, after := aft, guard := g } = !memN d H.arrs := by kernel_rfl
theorem fa150_0 (v : V) : vFieldAddr Tryz.prog 150 0 v = faddr 0 v := by kernel_rfl
theorem fg150_0 (s : St) (v : V) : vField Tryz.prog s 150 0 v = fget 0 1 false v := by kernel_rfl
theorem fa150_1 (v : V) : vFieldAddr Tryz.prog 150 1 v = faddr 1 v := by kernel_rfl
theorem fg150_1 (s : St) (v : V) : vField Tryz.prog s 150 1 v = fget 1 1 false v := by kernel_rfl
theorem fa150_2 (v : V) : vFieldAddr Tryz.prog 150 2 v = faddr 2 v := by kernel_rfl
theorem fg150_2 (s : St) (v : V) : vField Tryz.prog s 150 2 v = fget 2 1 false v := by kernel_rfl
theorem u151 : Tryz.prog.underlying 151 = some (.slice 150) := by kernel_rfl
theorem sz151 : szOf Tryz.prog 151 = 1 := by kernel_rfl
theorem ag151 : isAgg Tryz.prog 151 = false := by kernel_rfl
theorem eo151 : elemOf Tryz.prog 151 = 150 := by kernel_rfl
theorem es151 : elemSz Tryz.prog 151 = 3 := by kernel_rfl
theorem gr151 : growB Tryz.prog 151 = true := by kernel_rfl
theorem df151 : dflt Tryz.prog 151 = V.agg [V.int .i64 0, V.slc false 1 [], V.bool false] := by kernel_rfl
theorem ze151 : zero Tryz.prog 151 = some [V.slc true 3 []] := by kernel_rfl
theorem sz152 : szOf Tryz.prog 152 = 1 := by kernel_rfl
theorem ag152 : isAgg Tryz.prog 152 = false := by kernel_rfl
theorem ze152 : zero Tryz.prog 152 = some [V.nilfn] := by kernel_rfl
theorem sz153 : szOf Tryz.prog 153 = 1 := by kernel_rfl
theorem ag153 : isAgg Tryz.prog 153 = false := by kernel_rfl
theorem ze153 : zero Tryz.prog 153 = some [V.nilfn] := by kernel_rfl
theorem sz154 : szOf Tryz.prog 154 = 1 := by kernel_rfl
theorem ag154 : isAgg Tryz.prog 154 = false := by kernel_rfl
theorem ze154 : zero Tryz.prog 154 = some [V.nilfn] := by kernel_rfl
theorem sz155 : szOf Tryz.prog 155 = 1 := by kernel_rfl
theorem ag155 : isAgg Tryz.prog 155 = false := by kernel_rfl
theorem ze155 : zero Tryz.prog 155 = some [V.nilfn] := by kernel_rfl
theorem u156 : Tryz.prog.underlying 156 = some (.map 137 3) := by kernel_rfl
theorem sz156 : szOf Tryz.prog 156 = 1 := by kernel_rfl
theorem ag156 : isAgg Tryz.prog 156 = false := by kernel_rfl
theorem sz157 : szOf Tryz.prog 157 = 1 := by kernel_rfl
theorem ag157 : isAgg Tryz.prog 157 = false := by kernel_rfl
theorem ze157 : zero Tryz.prog 157 = some [V.nilfn] := by kernel_rfl
theorem sz158 : szOf Tryz.prog 158 = 4 := by kernel_rfl
theorem ag158 : isAgg Tryz.prog 158 = true := by kernel_rfl
theorem ze158 : zero Tryz.prog 158 = some [V.nilp, V.nilp, V.nilp, V.str ⟨#[]⟩] := by kernel_rfl
theorem la158 : layOf Tryz.prog 158 = some [(17, 0, 1), (17, 1, 1), (17, 2, 1), (9, 3, 1)] := by kernel_rfl
theorem bd158 (H : Hint) (d : Nat) (ty : TypeId) (ps : Array (Nat × Operand)) (s : St) : evV Tryz.prog H d ty (.build 158 ps) s = aggO (buildL Tryz.prog [(17, 0, 1), (17, 1, 1), (17, 2, 1), (9, 3, 1)] s [V.nilp, V.nilp, V.nilp, V.str ⟨#[]⟩] ps.toList) := build_lay la158 ze158
theorem xb158 (H : Hint) (d : Nat) (ty : TypeId) (ps : Array (Nat × Operand)) (pos : String) (aft : Array Edge) (g : Option (Nat × Bool)) : isX Tryz.prog H { dst := some d, op := .build 158 ps, type := ty, pos := pos, after := aft, guard := g } = !memN d H.arrs := by kernel_rfl
theorem fa158_0 (v : V) : vFieldAddr Tryz.prog 158 0 v = faddr 0 v := by kernel_rfl
theorem fg158_0 (s : St) (v : V) : vField Tryz.prog s 158 0 v = fget 0 1 false v := by kernel_rfl
theorem fa158_1 (v : V) : vFieldAddr Tryz.prog 158 1 v = faddr 1 v := by kernel_rfl
theorem fg158_1 (s : St) (v : V) : vField Tryz.prog s 158 1 v = fget 1 1 false v := by kernel_rfl
theorem fa158_2 (v : V) : vFieldAddr Tryz.prog 158 2 v = faddr 2 v := by kernel_rfl
theorem fg158_2 (s : St) (v : V) : vField Tryz.prog s 158 2 v = fget 2 1 false v := by kernel_rfl
theorem fa158_3 (v : V) : vFieldAddr Tryz.prog 158 3 v = faddr 3 v := by kernel_rfl
theorem fg158_3 (s : St) (v : V) : vField Tryz.prog s 158 3 v = fget 3 1 false v := by kernel_rfl
theorem sz159 : szOf Tryz.prog 159 = 4 := by kernel_rfl
theorem ag159 : isAgg Tryz.prog 159 = true := by kernel_rfl
theorem ze159 : zero Tryz.prog 159 = some [V.nilp, V.nilp, V.nilp, V.str ⟨#[]⟩] := by kernel_rfl
theorem la159 : layOf Tryz.prog 159 = some [(17, 0, 1), (17, 1, 1), (17, 2, 1), (9, 3, 1)] := by kernel_rfl
theorem bd159 (H : Hint) (d : Nat) (ty : TypeId) (ps : Array (Nat × Operand)) (s : St) : evV Tryz.prog H d ty (.build 159 ps) s = aggO (buildL Tryz.prog [(17, 0, 1), (17, 1, 1), (17, 2, 1), (9, 3, 1)] s [V.nilp, V.nilp, V.nilp, V.str ⟨#[]⟩] ps.toList) := build_lay la159 ze159
theorem xb159 (H : Hint) (d : Nat) (ty : TypeId) (ps : Array (Nat × Operand)) (pos : String) (aft : Array Edge) (g : Option (Nat × Bool)) : isX Tryz.prog H { dst := some d, op := .build 159 ps, type := ty, pos := pos, after := aft, guard := g } = !memN d H.arrs := by kernel_rfl
theorem fa159_0 (v : V) : vFieldAddr Tryz.prog 159 0 v = faddr 0 v := by kernel_rfl
theorem fg159_0 (s : St) (v : V) : vField Tryz.prog s 159 0 v = fget 0 1 false v := by kernel_rfl
theorem fa159_1 (v : V) : vFieldAddr Tryz.prog 159 1 v = faddr 1 v := by kernel_rfl
theorem fg159_1 (s : St) (v : V) : vField Tryz.prog s 159 1 v = fget 1 1 false v := by kernel_rfl
theorem fa159_2 (v : V) : vFieldAddr Tryz.prog 159 2 v = faddr 2 v := by kernel_rfl
theorem fg159_2 (s : St) (v : V) : vField Tryz.prog s 159 2 v = fget 2 1 false v := by kernel_rfl
theorem fa159_3 (v : V) : vFieldAddr Tryz.prog 159 3 v = faddr 3 v := by kernel_rfl
theorem fg159_3 (s : St) (v : V) : vField Tryz.prog s 159 3 v = fget 3 1 false v := by kernel_rfl
theorem xa160 (H : Hint) (d : Nat) (ty : TypeId) (ps : Array (Nat × Operand)) (pos : String) (aft : Array Edge) (g : Option (Nat × Bool)) : isX Tryz.prog H { dst := some d, op := .build 160 ps, type := ty, pos := pos, after := aft, guard := g } = memN d H.arrs := by kernel_rfl
theorem u160 : Tryz.prog.underlying 160 = some (.array 0 16) := by kernel_rfl
theorem sz160 : szOf Tryz.prog 160 = 0 := by kernel_rfl
theorem ag160 : isAgg Tryz.prog 160 = true := by kernel_rfl
theorem eo160 : elemOf Tryz.prog 160 = 16 := by kernel_rfl
theorem es160 : elemSz Tryz.prog 160 = 1 := by kernel_rfl
theorem ze160 : zero Tryz.prog 160 = some [] := by kernel_rfl
theorem sz161 : szOf Tryz.prog 161 = 0 := by kernel_rfl
theorem ag161 : isAgg Tryz.prog 161 = true := by kernel_rfl
theorem ze161 : zero Tryz.prog 161 = some [] := by kernel_rfl
theorem sz162 : szOf Tryz.prog 162 = 0 := by kernel_rfl
theorem ag162 : isAgg Tryz.prog 162 = true := by kernel_rfl
theorem ze162 : zero Tryz.prog 162 = some [] := by kernel_rfl
theorem sz163 : szOf Tryz.prog 163 = 1 := by kernel_rfl
theorem ag163 : isAgg Tryz.prog 163 = false := by kernel_rfl
theorem ze163 : zero Tryz.prog 163 = some [V.nilfn] := by kernel_rfl
theorem u164 : Tryz.prog.underlying 164 = some (.int .u32) := by kernel_rfl
theorem sz164 : szOf Tryz.prog 164 = 1 := by kernel_rfl
theorem ag164 : isAgg Tryz.prog 164 = false := by kernel_rfl
theorem ze164 : zero Tryz.prog 164 = some [V.int .u32 0] := by kernel_rfl
theorem u165 : Tryz.prog.underlying 165 = some (.int .u8) := by kernel_rfl
theorem sz165 : szOf Tryz.prog 165 = 1 := by kernel_rfl
theorem ag165 : isAgg Tryz.prog 165 = false := by kernel_rfl
theorem ze165 : zero Tryz.prog 165 = some [V.int .u8 0] := by kernel_rfl
theorem u166 : Tryz.prog.underlying 166 = some (.int .u8) := by kernel_rfl
theorem sz166 : szOf Tryz.prog 166 = 1 := by kernel_rfl
theorem ag166 : isAgg Tryz.prog 166 = false := by kernel_rfl
theorem ze166 : zero Tryz.prog 166 = some [V.int .u8 0] := by kernel_rfl
theorem sz167 : szOf Tryz.prog 167 = 1 := by kernel_rfl
theorem ag167 : isAgg Tryz.prog 167 = false := by kernel_rfl
theorem ze167 : zero Tryz.prog 167 = some [V.nilfn] := by kernel_rfl
theorem u168 : Tryz.prog.underlying 168 = some (.pointer 5) := by kernel_rfl
theorem sz168 : szOf Tryz.prog 168 = 1 := by kernel_rfl
theorem ag168 : isAgg Tryz.prog 168 = false := by kernel_rfl
theorem ze168 : zero Tryz.prog 168 = some [V.nilp] := by kernel_rfl
theorem u169 : Tryz.prog.underlying 169 = some (.int .i32) := by kernel_rfl
theorem sz169 : szOf Tryz.prog 169 = 1 := by kernel_rfl
theorem ag169 : isAgg Tryz.prog 169 = false := by kernel_rfl
theorem ze169 : zero Tryz.prog 169 = some [V.int .i32 0] := by kernel_rfl
theorem u170 : Tryz.prog.underlying 170 = some (.int .i32) := by kernel_rfl
theorem sz170 : szOf Tryz.prog 170 = 1 := by kernel_rfl
theorem ag170 : isAgg Tryz.prog 170 = false := by kernel_rfl
theorem ze170 : zero Tryz.prog 170 = some [V.int .i32 0] := by kernel_rfl
theorem sz171 : szOf Tryz.prog 171 = 11 := by kernel_rfl
theorem ag171 : isAgg Tryz.prog 171 = true := by kernel_rfl
theorem ze171 : zero Tryz.prog 171 = some [V.int .u64 0, V.int .u64 0, V.int .u32 0, V.int .u8 0, V.int .u8 0, V.int .u8 0, V.int .u8 0, V.nilfn, V.nilp, V.int .i32 0, V.int .i32 0] := by kernel_rfl
theorem la171 : layOf Tryz.prog 171 = some [(12, 0, 1), (12, 1, 1), (164, 2, 1), (165, 3, 1), (5, 4, 1), (5, 5, 1), (166, 6, 1), (167, 7, 1), (168, 8, 1), (169, 9, 1), (170, 10, 1)] := by kernel_rfl
theorem bd171 (H : Hint) (d : Nat) (ty : TypeId) (ps : Array (Nat × Operand)) (s : St) : evV Tryz.prog H d ty (.build 171 ps) s = aggO (buildL Tryz.prog [(12, 0, 1), (12, 1, 1), (164, 2, 1), (165, 3, 1), (5, 4, 1), (5, 5, 1), (166, 6, 1), (167, 7, 1), (168, 8, 1), (169, 9, 1), (170, 10, 1)] s [V.int .u64 0, V.int .u64 0, V.int .u32 0, V.int .u8 0, V.int .u8 0, V.int .u8 0, V.int .u8 0, V.nilfn, V.nilp, V.int .i32 0, V.int .i32 0] ps.toList) := build_lay la171 ze171
theorem xb171 (H : Hint) (d : Nat) (ty : TypeId) (ps : Array (Nat × Operand)) (pos : String) (aft : Array Edge) (g : Option (Nat × Bool)) : isX Tryz.prog H { dst := some d, op := .build 171 ps, type := ty, pos := pos, after := aft, guard := g } = !memN d H.arrs := by kernel_rfl
theorem fa171_0 (v : V) : vFieldAddr Tryz.prog 171 0 v = faddr 0 v := by kernel_rfl
theorem fg171_0 (s : St) (v : V) : vField Tryz.prog s 171 0 v = fget 0 1 false v := by kernel_rfl
theorem fa171_1 (v : V) : vFieldAddr Tryz.prog 171 1 v = faddr 1 v := by kernel_rfl
theorem fg171_1 (s : St) (v : V) : vField Tryz.prog s 171 1 v = fget 1 1 false v := by kernel_rfl
theorem fa171_2 (v : V) : vFieldAddr Tryz.prog 171 2 v = faddr 2 v := by kernel_rfl
theorem fg171_2 (s : St) (v : V) : vField Tryz.prog s 171 2 v = fget 2 1 false v := by kernel_rfl
theorem fa171_3 (v : V) : vFieldAddr Tryz.prog 171 3 v = faddr 3 v := by kernel_rfl
theorem fg171_3 (s : St) (v : V) : vField Tryz.prog s 171 3 v = fget 3 1 false v := by kernel_rfl
theorem fa171_4 (v : V) : vFieldAddr Tryz.prog 171 4 v = faddr 4 v := by kernel_rfl
theorem fg171_4 (s : St) (v : V) : vField Tryz.prog s 171 4 v = fget 4 1 false v := by kernel_rfl
theorem fa171_5 (v : V) : vFieldAddr Tryz.prog 171 5 v = faddr 5 v := by kernel_rfl
theorem fg171_5 (s : St) (v : V) : vField Tryz.prog s 171 5 v = fget 5 1 false v := by kernel_rfl
theorem fa171_6 (v : V) : vFieldAddr Tryz.prog 171 6 v = faddr 6 v := by kernel_rfl
theorem fg171_6 (s : St) (v : V) : vField Tryz.prog s 171 6 v = fget 6 1 false v := by kernel_rfl
theorem fa171_7 (v : V) : vFieldAddr Tryz.prog 171 7 v = faddr 7 v := by kernel_rfl
theorem fg171_7 (s : St) (v : V) : vField Tryz.prog s 171 7 v = fget 7 1 false v := by kernel_rfl
theorem fa171_8 (v : V) : vFieldAddr Tryz.prog 171 8 v = faddr 8 v := by kernel_rfl
theorem fg171_8 (s : St) (v : V) : vField Tryz.prog s 171 8 v = fget 8 1 false v := by kernel_rfl
theorem fa171_9 (v : V) : vFieldAddr Tryz.prog 171 9 v = faddr 9 v := by kernel_rfl
theorem fg171_9 (s : St) (v : V) : vField Tryz.prog s 171 9 v = fget 9 1 false v := by kernel_rfl
theorem fa171_10 (v : V) : vFieldAddr Tryz.prog 171 10 v = faddr 10 v := by kernel_rfl
theorem fg171_10 (s : St) (v : V) : vField Tryz.prog s 171 10 v = fget 10 1 false v := by kernel_rfl
theorem sz172 : szOf Tryz.prog 172 = 11 := by kernel_rfl
theorem ag172 : isAgg Tryz.prog 172 = true := by kernel_rfl
theorem ze172 : zero Tryz.prog 172 = some [V.int .u64 0, V.int .u64 0, V.int .u32 0, V.int .u8 0, V.int .u8 0, V.int .u8 0, V.int .u8 0, V.nilfn, V.nilp, V.int .i32 0, V.int .i32 0] := by kernel_rfl
theorem la172 : layOf Tryz.prog 172 = some [(12, 0, 1), (12, 1, 1), (164, 2, 1), (165, 3, 1), (5, 4, 1), (5, 5, 1), (166, 6, 1), (167, 7, 1), (168, 8, 1), (169, 9, 1), (170, 10, 1)] := by kernel_rfl
theorem bd172 (H : Hint) (d : Nat) (ty : TypeId) (ps : Array (Nat × Operand)) (s : St) : evV Tryz.prog H d ty (.build 172 ps) s = aggO (buildL Tryz.prog [(12, 0, 1), (12, 1, 1), (164, 2, 1), (165, 3, 1), (5, 4, 1), (5, 5, 1), (166, 6, 1), (167, 7, 1), (168, 8, 1), (169, 9, 1), (170, 10, 1)] s [V.int .u64 0, V.int .u64 0, V.int .u32 0, V.int .u8 0, V.int .u8 0, V.int .u8 0, V.int .u8 0, V.nilfn, V.nilp, V.int .i32 0, V.int .i32 0] ps.toList) := build_lay la172 ze172
theorem xb172 (H : Hint) (d : Nat) (ty : TypeId) (ps : Array (Nat × Operand)) (pos : String) (aft : Array Edge) (g : Option (Nat × Bool)) : isX Tryz.prog H { dst := some d, op := .build 172 ps, type := ty, pos := pos, after := aft, guard := g } = !memN d H.arrs := by kernel_rfl
theorem fa172_0 (v : V) : vFieldAddr Tryz.prog 172 0 v = faddr 0 v := by kernel_rfl
theorem fg172_0 (s : St) (v : V) : vField Tryz.prog s 172 0 v = fget 0 1 false v := by kernel_rfl
theorem fa172_1 (v : V) : vFieldAddr Tryz.prog 172 1 v = faddr 1 v := by kernel_rfl
theorem fg172_1 (s : St) (v : V) : vField Tryz.prog s 172 1 v = fget 1 1 false v := by kernel_rfl
theorem fa172_2 (v : V) : vFieldAddr Tryz.prog 172 2 v = faddr 2 v := by kernel_rfl
theorem fg172_2 (s : St) (v : V) : vField Tryz.prog s 172 2 v = fget 2 1 false v := by kernel_rfl
theorem fa172_3 (v : V) : vFieldAddr Tryz.prog 172 3 v = faddr 3 v := by kernel_rfl
theorem fg172_3 (s : St) (v : V) : vField Tryz.prog s 172 3 v = fget 3 1 false v := by kernel_rfl
theorem fa172_4 (v : V) : vFieldAddr Tryz.prog 172 4 v = faddr 4 v := by kernel_rfl
theorem fg172_4 (s : St) (v : V) : vField Tryz.prog s 172 4 v = fget 4 1 false v := by kernel_rfl
theorem fa172_5 (v : V) : vFieldAddr Tryz.prog 172 5 v = faddr 5 v := by kernel_rfl
theorem fg172_5 (s : St) (v : V) : vField Tryz.prog s 172 5 v = fget 5 1 false v := by kernel_rfl
theorem fa172_6 (v : V) : vFieldAddr Tryz.prog 172 6 v = faddr 6 v := by kernel_rfl
theorem fg172_6 (s : St) (v : V) : vField Tryz.prog s 172 6 v = fget 6 1 false v := by kernel_rfl
theorem fa172_7 (v : V) : vFieldAddr Tryz.prog 172 7 v = faddr 7 v := by kernel_rfl
theorem fg172_7 (s : St) (v : V) : vField Tryz.prog s 172 7 v = fget 7 1 false v := by kernel_rfl
theorem fa172_8 (v : V) : vFieldAddr Tryz.prog 172 8 v = faddr 8 v := by kernel_rfl
theorem fg172_8 (s : St) (v : V) : vField Tryz.prog s 172 8 v = fget 8 1 false v := by kernel_rfl
theorem fa172_9 (v : V) : vFieldAddr Tryz.prog 172 9 v = faddr 9 v := by kernel_rfl
theorem fg172_9 (s : St) (v : V) : vField Tryz.prog s 172 9 v = fget 9 1 false v := by kernel_rfl
theorem fa172_10 (v : V) : vFieldAddr Tryz.prog 172 10 v = faddr 10 v := by kernel_rfl
theorem fg172_10 (s : St) (v : V) : vField Tryz.prog s 172 10 v = fget 10 1 false v := by kernel_rfl
theorem ev3 (x y : Int) : eqV Tryz.prog 3 (.int .i64 x) (.int .i64 y) = some (x == y) := by kernel_rfl
theorem ev88 (x0 y0 x1 y1 : Int) : eqV Tryz.prog 88 (.agg [V.int .i64 x0, V.int .i64 x1]) (.agg [V.int .i64 y0, V.int .i64 y1]) = some ((x0 == y0) && ((x1 == y1) && true)) := by kernel_rfl
theorem ev115 (x0 y0 x1 y1 x2 y2 x3 y3 : Int) : eqV Tryz.prog 115 (.agg [V.int .i64 x0, V.int .i64 x1, V.int .i64 x2, V.int .i64 x3]) (.agg [V.int .i64 y0, V.int .i64 y1, V.int .i64 y2, V.int .i64 y3]) = some ((x0 == y0) && ((x1 == y1) && ((x2 == y2) && ((x3 == y3) && true)))) := by kernel_rfl
theorem by3 : (Tryz.prog.bytesOf 3) = 8 := by kernel_rfl
theorem by4 : (Tryz.prog.bytesOf 4) = 1 := by kernel_rfl
theorem by5 : (Tryz.prog.bytesOf 5) = 1 := by kernel_rfl
theorem by9 : (Tryz.prog.bytesOf 9) = 16 := by kernel_rfl
theorem by29 : (Tryz.prog.bytesOf 29) = 48 := by kernel_rfl
theorem by44 : (Tryz.prog.bytesOf 44) = 24 := by kernel_rfl
theorem by51 : (Tryz.prog.bytesOf 51) = 48 := by kernel_rfl
theorem by53 : (Tryz.prog.bytesOf 53) = 120 := by kernel_rfl
theorem by73 : (Tryz.prog.bytesOf 73) = 48 := by kernel_rfl
theorem by75 : (Tryz.prog.bytesOf 75) = 120 := by kernel_rfl
theorem by88 : (Tryz.prog.bytesOf 88) = 16 := by kernel_rfl
theorem by137 : (Tryz.prog.bytesOf 137) = 16 := by kernel_rfl
theorem by150 : (Tryz.prog.bytesOf 150) = 40 := by kernel_rfl
attribute [go_sem] sz1 ag1 ze1 u2 sz2 ag2 ze2 u3 sz3 ag3 ze3 u4 sz4 ag4 ze4 ev4 u5 sz5 ag5 ze5 u6 sz6 ag6 ze6 sz7 ag7 ze7 fa7_0 fg7_0 fa7_1 fg7_1 fa7_2 fg7_2 fa7_3 fg7_3 sz8 ag8 ze8 fa8_0 fg8_0 fa8_1 fg8_1 fa8_2 fg8_2 fa8_3 fg8_3 u9 sz9 ag9 ze9 u10 sz10 ag10 ze10 u11 sz11 ag11 ze11 u12 sz12 ag12 ze12 sz13 ag13 ze13 fa13_0 fg13_0 fa13_1 fg13_1 sz14 ag14 ze14 fa14_0 fg14_0 fa14_1 fg14_1 u15 sz15 ag15 ze15 u16 sz16 ag16 ze16 u17 sz17 ag17 ze17 sz18 ag18 ze18 fa18_0 fg18_0 sz19 ag19 ze19 fa19_0 fg19_0 u21 sz21 ag21 ze21 u22 sz22 ag22 eo22 es22 gr22 df22 ze22 sz23 ag23 ze23 fa23_0 fg23_0 sz24 ag24 ze24 fa24_0 fg24_0 sz25 ag25 ze25 u26 sz26 ag26 eo26 es26 gr26 df26 ze26 u27 sz27 ag27 eo27 es27 gr27 df27 ze27 sz28 ag28 ze28 fa28_0 fg28_0 fa28_1 fg28_1 sz29 ag29 ze29 fa29_0 fg29_0 fa29_1 fg29_1 sz31 ag31 ze31 u32 sz32 ag32 eo32 es32 gr32 df32 ze32 sz33 ag33 ze33 fa33_0 fg33_0 sz34 ag34 ze34 fa34_0 fg34_0 sz35 ag35 ze35 sz36 ag36 ze36 sz37 ag37 ze37 sz38 ag38 ze38 sz39 ag39 ze39 sz40 ag40 ze40 sz42 ag42 ze42 sz43 ag43 ze43 u44 sz44 ag44 eo44 es44 gr44 df44 ze44 sz45 ag45 ze45 sz46 ag46 ze46 sz47 ag47 ze47 fa47_0 fg47_0 fa47_1 fg47_1 fa47_2 fg47_2 sz48 ag48 ze48 fa48_0 fg48_0 fa48_1 fg48_1 fa48_2 fg48_2 ev48 eg48 u49 sz49 ag49 eo49 es49 gr49 df49 ze49 sz50 ag50 ze50 fa50_0 fg50_0 fa50_1 fg50_1 fa50_2 fg50_2 sz51 ag51 ze51 fa51_0 fg51_0 fa51_1 fg51_1 fa51_2 fg51_2 sz52 ag52 ze52 fa52_0 fg52_0 fa52_1 fg52_1 fa52_2 fg52_2 fa52_3 fg52_3 sz53 ag53 ze53 fa53_0 fg53_0 fa53_1 fg53_1 fa53_2 fg53_2 fa53_3 fg53_3 sz54 ag54 ze54 sz55 ag55 ze55 sz56 ag56 ze56 sz57 ag57 ze57 sz58 ag58 ze58 sz59 ag59 ze59 sz60 ag60 ze60 sz61 ag61 ze61 sz62 ag62 ze62 sz63 ag63 ze63 sz64 ag64 ze64 sz65 ag65 ze65 sz66 ag66 ze66 sz68 ag68 ze68 sz69 ag69 ze69 sz70 ag70 ze70 fa70_0 fg70_0 fa70_1 fg70_1 fa70_2 fg70_2 ev70 eg70 u71 sz71 ag71 eo71 es71 gr71 df71 ze71 sz72 ag72 ze72 fa72_0 fg72_0 fa72_1 fg72_1 fa72_2 fg72_2 sz73 ag73 ze73 fa73_0 fg73_0 fa73_1 fg73_1 fa73_2 fg73_2 sz74 ag74 ze74 fa74_0 fg74_0 fa74_1 fg74_1 fa74_2 fg74_2 fa74_3 fg74_3 sz75 ag75 ze75 fa75_0 fg75_0 fa75_1 fg75_1 fa75_2 fg75_2 fa75_3 fg75_3 sz76 ag76 ze76 sz77 ag77 ze77 sz78 ag78 ze78 sz79 ag79 ze79 sz80 ag80 ze80 sz81 ag81 ze81 sz82 ag82 ze82 sz83 ag83 ze83 sz84 ag84 ze84 u85 sz85 ag85 eo85 es85 gr85 df85 ze85 sz87 ag87 ze87 u88 sz88 ag88 eo88 es88 ze88 sz89 ag89 ze89 sz90 ag90 ze90 sz91 ag91 ze91 sz92 ag92 ze92 sz93 ag93 ze93 sz94 ag94 ze94 sz95 ag95 ze95 sz96 ag96 ze96 sz97 ag97 ze97 sz98 ag98 ze98 sz99 ag99 ze99 sz100 ag100 ze100 sz101 ag101 ze101 sz102 ag102 ze102 sz104 ag104 ze104 sz105 ag105 ze105 sz106 ag106 ze106 sz107 ag107 ze107 sz108 ag108 ze108 sz109 ag109 ze109 sz110 ag110 ze110 sz111 ag111 ze111 sz112 ag112 ze112 u113 sz113 ag113 u114 sz114 ag114 u115 sz115 ag115 eo115 es115 ze115 sz116 ag116 ze116 u117 sz117 ag117 eo117 es117 gr117 df117 ze117 sz118 ag118 ze118 u119 sz119 ag119 eo119 es119 gr119 df119 ze119 sz120 ag120 ze120 sz121 ag121 ze121 u122 sz122 ag122 sz123 ag123 ze123 sz124 ag124 ze124 u125 sz125 ag125 eo125 es125 gr125 df125 ze125 sz126 ag126 ze126 sz127 ag127 ze127 sz128 ag128 ze128 sz129 ag129 ze129 sz130 ag130 ze130 sz131 ag131 ze131 sz132 ag132 ze132 sz133 ag133 ze133 sz134 ag134 ze134 u135 sz135 ag135 ze135 sz136 ag136 ze136 fa136_0 fg136_0 fa136_1 fg136_1 ev136 eg136 sz137 ag137 ze137 fa137_0 fg137_0 fa137_1 fg137_1 ev137 eg137 sz138 ag138 ze138 u139 sz139 ag139 eo139 es139 gr139 df139 ze139 sz141 ag141 ze141 sz142 ag142 ze142 sz143 ag143 ze143 sz144 ag144 ze144 sz145 ag145 ze145 sz146 ag146 ze146 sz147 ag147 ze147 sz148 ag148 ze148 sz149 ag149 ze149 fa149_0 fg149_0 fa149_1 fg149_1 fa149_2 fg149_2 sz150 ag150 ze150 fa150_0 fg150_0 fa150_1 fg150_1 fa150_2 fg150_2 u151 sz151 ag151 eo151 es151 gr151 df151 ze151 sz152 ag152 ze152 sz153 ag153 ze153 sz154 ag154 ze154 sz155 ag155 ze155 u156 sz156 ag156 sz157 ag157 ze157 sz158 ag158 ze158 fa158_0 fg158_0 fa158_1 fg158_1 fa158_2 fg158_2 fa158_3 fg158_3 sz159 ag159 ze159 fa159_0 fg159_0 fa159_1 fg159_1 fa159_2 fg159_2 fa159_3 fg159_3 u160 sz160 ag160 eo160 es160 ze160 sz161 ag161 ze161 sz162 ag162 ze162 sz163 ag163 ze163 u164 sz164 ag164 ze164 u165 sz165 ag165 ze165 u166 sz166 ag166 ze166 sz167 ag167 ze167 u168 sz168 ag168 ze168 u169 sz169 ag169 ze169 u170 sz170 ag170 ze170 sz171 ag171 ze171 fa171_0 fg171_0 fa171_1 fg171_1 fa171_2 fg171_2 fa171_3 fg171_3 fa171_4 fg171_4 fa171_5 fg171_5 fa171_6 fg171_6 fa171_7 fg171_7 fa171_8 fg171_8 fa171_9 fg171_9 fa171_10 fg171_10 sz172 ag172 ze172 fa172_0 fg172_0 fa172_1 fg172_1 fa172_2 fg172_2 fa172_3 fg172_3 fa172_4 fg172_4 fa172_5 fg172_5 fa172_6 fg172_6 fa172_7 fg172_7 fa172_8 fg172_8 fa172_9 fg172_9 fa172_10 fg172_10 ev3 ev88 ev115 by3 by4 by5 by9 by29 by44 by51 by53 by73 by75 by88 by137 by150
attribute [go_sem high] bd7 xb7 bd8 xb8 bd13 xb13 bd14 xb14 bd18 xb18 bd19 xb19 bd23 xb23 bd24 xb24 bd28 xb28 bd29 xb29 bd33 xb33 bd34 xb34 bd47 xb47 bd48 xb48 bd50 xb50 bd51 xb51 bd52 xb52 bd53 xb53 bd70 xb70 bd72 xb72 bd73 xb73 bd74 xb74 bd75 xb75 xa88 xa115 bd136 xb136 bd137 xb137 bd149 xb149 bd150 xb150 bd158 xb158 bd159 xb159 xa160 bd171 xb171 bd172 xb172
end Go.Ev
