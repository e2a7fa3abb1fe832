/- Facts on the seat's types, printed by a program. -/
import Derived.Test.YtdepiibcopbjlaaEvS
import Derived.Test.YtdepiibcopbjlaaProg
namespace Go.Ev
open Go Go.Proofs
set_option maxRecDepth 10000
theorem ag1 : isAgg Try.prog 1 = false := by kernel_rfl
theorem u2 : Try.prog.underlying 2 = some (.int .i64) := by kernel_rfl
theorem sz2 : szOf Try.prog 2 = 1 := by kernel_rfl
theorem ag2 : isAgg Try.prog 2 = false := by kernel_rfl
theorem ze2 : zero Try.prog 2 = some [V.int .i64 0] := by kernel_rfl
theorem u3 : Try.prog.underlying 3 = some (.int .i64) := by kernel_rfl
theorem sz3 : szOf Try.prog 3 = 1 := by kernel_rfl
theorem ag3 : isAgg Try.prog 3 = false := by kernel_rfl
theorem ze3 : zero Try.prog 3 = some [V.int .i64 0] := by kernel_rfl
theorem u4 : Try.prog.underlying 4 = some .bool := by kernel_rfl
theorem sz4 : szOf Try.prog 4 = 1 := by kernel_rfl
theorem ag4 : isAgg Try.prog 4 = false := by kernel_rfl
theorem ze4 : zero Try.prog 4 = some [V.bool false] := by kernel_rfl
theorem ev4 (x y : Bool) : eqV Try.prog 4 (.bool x) (.bool y) = some (x == y) := by kernel_rfl
theorem u5 : Try.prog.underlying 5 = some (.int .u8) := by kernel_rfl
theorem sz5 : szOf Try.prog 5 = 1 := by kernel_rfl
theorem ag5 : isAgg Try.prog 5 = false := by kernel_rfl
theorem ze5 : zero Try.prog 5 = some [V.int .u8 0] := by kernel_rfl
theorem u6 : Try.prog.underlying 6 = some (.int .u8) := by kernel_rfl
theorem sz6 : szOf Try.prog 6 = 1 := by kernel_rfl
theorem ag6 : isAgg Try.prog 6 = false := by kernel_rfl
theorem ze6 : zero Try.prog 6 = some [V.int .u8 0] := by kernel_rfl
theorem sz7 : szOf Try.prog 7 = 4 := by kernel_rfl
theorem ag7 : isAgg Try.prog 7 = true := by kernel_rfl
theorem ze7 : zero Try.prog 7 = some [V.int .i64 0, V.int .i64 0, V.bool false, V.int .u8 0] := by kernel_rfl
theorem fa7_0 (v : V) : vFieldAddr Try.prog 7 0 v = faddr 0 v := by kernel_rfl
theorem fg7_0 (s : St) (v : V) : vField Try.prog s 7 0 v = fget 0 1 false v := by kernel_rfl
theorem fa7_1 (v : V) : vFieldAddr Try.prog 7 1 v = faddr 1 v := by kernel_rfl
theorem fg7_1 (s : St) (v : V) : vField Try.prog s 7 1 v = fget 1 1 false v := by kernel_rfl
theorem fa7_2 (v : V) : vFieldAddr Try.prog 7 2 v = faddr 2 v := by kernel_rfl
theorem fg7_2 (s : St) (v : V) : vField Try.prog s 7 2 v = fget 2 1 false v := by kernel_rfl
theorem fa7_3 (v : V) : vFieldAddr Try.prog 7 3 v = faddr 3 v := by kernel_rfl
theorem fg7_3 (s : St) (v : V) : vField Try.prog s 7 3 v = fget 3 1 false v := by kernel_rfl
theorem sz8 : szOf Try.prog 8 = 4 := by kernel_rfl
theorem ag8 : isAgg Try.prog 8 = true := by kernel_rfl
theorem ze8 : zero Try.prog 8 = some [V.int .i64 0, V.int .i64 0, V.bool false, V.int .u8 0] := by kernel_rfl
theorem fa8_0 (v : V) : vFieldAddr Try.prog 8 0 v = faddr 0 v := by kernel_rfl
theorem fg8_0 (s : St) (v : V) : vField Try.prog s 8 0 v = fget 0 1 false v := by kernel_rfl
theorem fa8_1 (v : V) : vFieldAddr Try.prog 8 1 v = faddr 1 v := by kernel_rfl
theorem fg8_1 (s : St) (v : V) : vField Try.prog s 8 1 v = fget 1 1 false v := by kernel_rfl
theorem fa8_2 (v : V) : vFieldAddr Try.prog 8 2 v = faddr 2 v := by kernel_rfl
theorem fg8_2 (s : St) (v : V) : vField Try.prog s 8 2 v = fget 2 1 false v := by kernel_rfl
theorem fa8_3 (v : V) : vFieldAddr Try.prog 8 3 v = faddr 3 v := by kernel_rfl
theorem fg8_3 (s : St) (v : V) : vField Try.prog s 8 3 v = fget 3 1 false v := by kernel_rfl
theorem u9 : Try.prog.underlying 9 = some .string := by kernel_rfl
theorem sz9 : szOf Try.prog 9 = 1 := by kernel_rfl
theorem ag9 : isAgg Try.prog 9 = false := by kernel_rfl
theorem ze9 : zero Try.prog 9 = some [V.str ⟨#[]⟩] := by kernel_rfl
theorem u10 : Try.prog.underlying 10 = some .string := by kernel_rfl
theorem sz10 : szOf Try.prog 10 = 1 := by kernel_rfl
theorem ag10 : isAgg Try.prog 10 = false := by kernel_rfl
theorem ze10 : zero Try.prog 10 = some [V.str ⟨#[]⟩] := by kernel_rfl
theorem u11 : Try.prog.underlying 11 = some .string := by kernel_rfl
theorem sz11 : szOf Try.prog 11 = 1 := by kernel_rfl
theorem ag11 : isAgg Try.prog 11 = false := by kernel_rfl
theorem ze11 : zero Try.prog 11 = some [V.str ⟨#[]⟩] := by kernel_rfl
theorem u12 : Try.prog.underlying 12 = some (.int .u64) := by kernel_rfl
theorem sz12 : szOf Try.prog 12 = 1 := by kernel_rfl
theorem ag12 : isAgg Try.prog 12 = false := by kernel_rfl
theorem ze12 : zero Try.prog 12 = some [V.int .u64 0] := by kernel_rfl
theorem sz13 : szOf Try.prog 13 = 2 := by kernel_rfl
theorem ag13 : isAgg Try.prog 13 = true := by kernel_rfl
theorem ze13 : zero Try.prog 13 = some [V.str ⟨#[]⟩, V.int .u64 0] := by kernel_rfl
theorem fa13_0 (v : V) : vFieldAddr Try.prog 13 0 v = faddr 0 v := by kernel_rfl
theorem fg13_0 (s : St) (v : V) : vField Try.prog s 13 0 v = fget 0 1 false v := by kernel_rfl
theorem fa13_1 (v : V) : vFieldAddr Try.prog 13 1 v = faddr 1 v := by kernel_rfl
theorem fg13_1 (s : St) (v : V) : vField Try.prog s 13 1 v = fget 1 1 false v := by kernel_rfl
theorem sz14 : szOf Try.prog 14 = 2 := by kernel_rfl
theorem ag14 : isAgg Try.prog 14 = true := by kernel_rfl
theorem ze14 : zero Try.prog 14 = some [V.str ⟨#[]⟩, V.int .u64 0] := by kernel_rfl
theorem fa14_0 (v : V) : vFieldAddr Try.prog 14 0 v = faddr 0 v := by kernel_rfl
theorem fg14_0 (s : St) (v : V) : vField Try.prog s 14 0 v = fget 0 1 false v := by kernel_rfl
theorem fa14_1 (v : V) : vFieldAddr Try.prog 14 1 v = faddr 1 v := by kernel_rfl
theorem fg14_1 (s : St) (v : V) : vField Try.prog s 14 1 v = fget 1 1 false v := by kernel_rfl
theorem u15 : Try.prog.underlying 15 = some (.pointer 191) := by kernel_rfl
theorem sz15 : szOf Try.prog 15 = 1 := by kernel_rfl
theorem ag15 : isAgg Try.prog 15 = false := by kernel_rfl
theorem ze15 : zero Try.prog 15 = some [V.nilp] := by kernel_rfl
theorem u16 : Try.prog.underlying 16 = some (.pointer 194) := by kernel_rfl
theorem sz16 : szOf Try.prog 16 = 1 := by kernel_rfl
theorem ag16 : isAgg Try.prog 16 = false := by kernel_rfl
theorem ze16 : zero Try.prog 16 = some [V.nilp] := by kernel_rfl
theorem u17 : Try.prog.underlying 17 = some (.pointer 204) := by kernel_rfl
theorem sz17 : szOf Try.prog 17 = 1 := by kernel_rfl
theorem ag17 : isAgg Try.prog 17 = false := by kernel_rfl
theorem ze17 : zero Try.prog 17 = some [V.nilp] := by kernel_rfl
theorem sz18 : szOf Try.prog 18 = 1 := by kernel_rfl
theorem ag18 : isAgg Try.prog 18 = true := by kernel_rfl
theorem ze18 : zero Try.prog 18 = some [V.nilp] := by kernel_rfl
theorem fa18_0 (v : V) : vFieldAddr Try.prog 18 0 v = faddr 0 v := by kernel_rfl
theorem fg18_0 (s : St) (v : V) : vField Try.prog s 18 0 v = fget 0 1 false v := by kernel_rfl
theorem sz19 : szOf Try.prog 19 = 1 := by kernel_rfl
theorem ag19 : isAgg Try.prog 19 = true := by kernel_rfl
theorem ze19 : zero Try.prog 19 = some [V.nilp] := by kernel_rfl
theorem fa19_0 (v : V) : vFieldAddr Try.prog 19 0 v = faddr 0 v := by kernel_rfl
theorem fg19_0 (s : St) (v : V) : vField Try.prog s 19 0 v = fget 0 1 false v := by kernel_rfl
theorem u21 : Try.prog.underlying 21 = some (.int .i32) := by kernel_rfl
theorem sz21 : szOf Try.prog 21 = 1 := by kernel_rfl
theorem ag21 : isAgg Try.prog 21 = false := by kernel_rfl
theorem ze21 : zero Try.prog 21 = some [V.int .i32 0] := by kernel_rfl
theorem ag22 : isAgg Try.prog 22 = false := by kernel_rfl
theorem ag23 : isAgg Try.prog 23 = false := by kernel_rfl
theorem sz24 : szOf Try.prog 24 = 3 := by kernel_rfl
theorem ag24 : isAgg Try.prog 24 = true := by kernel_rfl
theorem ze24 : zero Try.prog 24 = some [V.str ⟨#[]⟩, V.str ⟨#[]⟩, V.str ⟨#[]⟩] := by kernel_rfl
theorem fa24_0 (v : V) : vFieldAddr Try.prog 24 0 v = faddr 0 v := by kernel_rfl
theorem fg24_0 (s : St) (v : V) : vField Try.prog s 24 0 v = fget 0 1 false v := by kernel_rfl
theorem fa24_1 (v : V) : vFieldAddr Try.prog 24 1 v = faddr 1 v := by kernel_rfl
theorem fg24_1 (s : St) (v : V) : vField Try.prog s 24 1 v = fget 1 1 false v := by kernel_rfl
theorem fa24_2 (v : V) : vFieldAddr Try.prog 24 2 v = faddr 2 v := by kernel_rfl
theorem fg24_2 (s : St) (v : V) : vField Try.prog s 24 2 v = fget 2 1 false v := by kernel_rfl
theorem sz25 : szOf Try.prog 25 = 3 := by kernel_rfl
theorem ag25 : isAgg Try.prog 25 = true := by kernel_rfl
theorem ze25 : zero Try.prog 25 = some [V.str ⟨#[]⟩, V.str ⟨#[]⟩, V.str ⟨#[]⟩] := by kernel_rfl
theorem fa25_0 (v : V) : vFieldAddr Try.prog 25 0 v = faddr 0 v := by kernel_rfl
theorem fg25_0 (s : St) (v : V) : vField Try.prog s 25 0 v = fget 0 1 false v := by kernel_rfl
theorem fa25_1 (v : V) : vFieldAddr Try.prog 25 1 v = faddr 1 v := by kernel_rfl
theorem fg25_1 (s : St) (v : V) : vField Try.prog s 25 1 v = fget 1 1 false v := by kernel_rfl
theorem fa25_2 (v : V) : vFieldAddr Try.prog 25 2 v = faddr 2 v := by kernel_rfl
theorem fg25_2 (s : St) (v : V) : vField Try.prog s 25 2 v = fget 2 1 false v := by kernel_rfl
theorem ev25 (x0 y0 : ByteArray) (x1 y1 : ByteArray) (x2 y2 : ByteArray) : eqV Try.prog 25 (.agg [V.str x0, V.str x1, V.str x2]) (.agg [V.str y0, V.str y1, V.str y2]) = some ((x0.toList == y0.toList) && ((x1.toList == y1.toList) && ((x2.toList == y2.toList) && true))) := by kernel_rfl
theorem eg25 : Try.prog.eqGuardType Try.prog.depth 25 = false := by kernel_rfl
theorem ag26 : isAgg Try.prog 26 = false := by kernel_rfl
theorem ag27 : isAgg Try.prog 27 = false := by kernel_rfl
theorem sz28 : szOf Try.prog 28 = 3 := by kernel_rfl
theorem ag28 : isAgg Try.prog 28 = true := by kernel_rfl
theorem ze28 : zero Try.prog 28 = some [V.str ⟨#[]⟩, V.str ⟨#[]⟩, V.str ⟨#[]⟩] := by kernel_rfl
theorem fa28_0 (v : V) : vFieldAddr Try.prog 28 0 v = faddr 0 v := by kernel_rfl
theorem fg28_0 (s : St) (v : V) : vField Try.prog s 28 0 v = fget 0 1 false v := by kernel_rfl
theorem fa28_1 (v : V) : vFieldAddr Try.prog 28 1 v = faddr 1 v := by kernel_rfl
theorem fg28_1 (s : St) (v : V) : vField Try.prog s 28 1 v = fget 1 1 false v := by kernel_rfl
theorem fa28_2 (v : V) : vFieldAddr Try.prog 28 2 v = faddr 2 v := by kernel_rfl
theorem fg28_2 (s : St) (v : V) : vField Try.prog s 28 2 v = fget 2 1 false v := by kernel_rfl
theorem ev28 (x0 y0 : ByteArray) (x1 y1 : ByteArray) (x2 y2 : ByteArray) : eqV Try.prog 28 (.agg [V.str x0, V.str x1, V.str x2]) (.agg [V.str y0, V.str y1, V.str y2]) = some ((x0.toList == y0.toList) && ((x1.toList == y1.toList) && ((x2.toList == y2.toList) && true))) := by kernel_rfl
theorem eg28 : Try.prog.eqGuardType Try.prog.depth 28 = false := by kernel_rfl
theorem ag29 : isAgg Try.prog 29 = false := by kernel_rfl
theorem ag30 : isAgg Try.prog 30 = false := by kernel_rfl
theorem ag31 : isAgg Try.prog 31 = false := by kernel_rfl
theorem ag32 : isAgg Try.prog 32 = false := by kernel_rfl
theorem ag34 : isAgg Try.prog 34 = false := by kernel_rfl
theorem ag35 : isAgg Try.prog 35 = false := by kernel_rfl
theorem ag36 : isAgg Try.prog 36 = false := by kernel_rfl
theorem u37 : Try.prog.underlying 37 = some (.slice 40) := by kernel_rfl
theorem sz37 : szOf Try.prog 37 = 1 := by kernel_rfl
theorem ag37 : isAgg Try.prog 37 = false := by kernel_rfl
theorem eo37 : elemOf Try.prog 37 = 40 := by kernel_rfl
theorem es37 : elemSz Try.prog 37 = 3 := by kernel_rfl
theorem gr37 : growB Try.prog 37 = true := by kernel_rfl
theorem df37 : dflt Try.prog 37 = V.agg [V.str ⟨#[]⟩, V.str ⟨#[]⟩, V.slc false 1 []] := by kernel_rfl
theorem ze37 : zero Try.prog 37 = some [V.slc true 3 []] := by kernel_rfl
theorem u38 : Try.prog.underlying 38 = some (.slice 3) := by kernel_rfl
theorem sz38 : szOf Try.prog 38 = 1 := by kernel_rfl
theorem ag38 : isAgg Try.prog 38 = false := by kernel_rfl
theorem eo38 : elemOf Try.prog 38 = 3 := by kernel_rfl
theorem es38 : elemSz Try.prog 38 = 1 := by kernel_rfl
theorem gr38 : growB Try.prog 38 = true := by kernel_rfl
theorem df38 : dflt Try.prog 38 = V.int .i64 0 := by kernel_rfl
theorem ze38 : zero Try.prog 38 = some [V.slc true 1 []] := by kernel_rfl
theorem sz39 : szOf Try.prog 39 = 3 := by kernel_rfl
theorem ag39 : isAgg Try.prog 39 = true := by kernel_rfl
theorem ze39 : zero Try.prog 39 = some [V.str ⟨#[]⟩, V.str ⟨#[]⟩, V.slc true 1 []] := by kernel_rfl
theorem fa39_0 (v : V) : vFieldAddr Try.prog 39 0 v = faddr 0 v := by kernel_rfl
theorem fg39_0 (s : St) (v : V) : vField Try.prog s 39 0 v = fget 0 1 false v := by kernel_rfl
theorem fa39_1 (v : V) : vFieldAddr Try.prog 39 1 v = faddr 1 v := by kernel_rfl
theorem fg39_1 (s : St) (v : V) : vField Try.prog s 39 1 v = fget 1 1 false v := by kernel_rfl
theorem fa39_2 (v : V) : vFieldAddr Try.prog 39 2 v = faddr 2 v := by kernel_rfl
theorem fg39_2 (s : St) (v : V) : vField Try.prog s 39 2 v = fget 2 1 false v := by kernel_rfl
theorem sz40 : szOf Try.prog 40 = 3 := by kernel_rfl
theorem ag40 : isAgg Try.prog 40 = true := by kernel_rfl
theorem ze40 : zero Try.prog 40 = some [V.str ⟨#[]⟩, V.str ⟨#[]⟩, V.slc true 1 []] := by kernel_rfl
theorem fa40_0 (v : V) : vFieldAddr Try.prog 40 0 v = faddr 0 v := by kernel_rfl
theorem fg40_0 (s : St) (v : V) : vField Try.prog s 40 0 v = fget 0 1 false v := by kernel_rfl
theorem fa40_1 (v : V) : vFieldAddr Try.prog 40 1 v = faddr 1 v := by kernel_rfl
theorem fg40_1 (s : St) (v : V) : vField Try.prog s 40 1 v = fget 1 1 false v := by kernel_rfl
theorem fa40_2 (v : V) : vFieldAddr Try.prog 40 2 v = faddr 2 v := by kernel_rfl
theorem fg40_2 (s : St) (v : V) : vField Try.prog s 40 2 v = fget 2 1 false v := by kernel_rfl
theorem ag41 : isAgg Try.prog 41 = false := by kernel_rfl
theorem ag42 : isAgg Try.prog 42 = false := by kernel_rfl
theorem ag43 : isAgg Try.prog 43 = false := by kernel_rfl
theorem u44 : Try.prog.underlying 44 = some (.slice 46) := by kernel_rfl
theorem sz44 : szOf Try.prog 44 = 1 := by kernel_rfl
theorem ag44 : isAgg Try.prog 44 = false := by kernel_rfl
theorem eo44 : elemOf Try.prog 44 = 46 := by kernel_rfl
theorem es44 : elemSz Try.prog 44 = 3 := by kernel_rfl
theorem gr44 : growB Try.prog 44 = true := by kernel_rfl
theorem df44 : dflt Try.prog 44 = V.agg [V.str ⟨#[]⟩, V.str ⟨#[]⟩, V.slc false 1 []] := by kernel_rfl
theorem ze44 : zero Try.prog 44 = some [V.slc true 3 []] := by kernel_rfl
theorem ag45 : isAgg Try.prog 45 = false := by kernel_rfl
theorem sz46 : szOf Try.prog 46 = 3 := by kernel_rfl
theorem ag46 : isAgg Try.prog 46 = true := by kernel_rfl
theorem ze46 : zero Try.prog 46 = some [V.str ⟨#[]⟩, V.str ⟨#[]⟩, V.slc true 1 []] := by kernel_rfl
theorem fa46_0 (v : V) : vFieldAddr Try.prog 46 0 v = faddr 0 v := by kernel_rfl
theorem fg46_0 (s : St) (v : V) : vField Try.prog s 46 0 v = fget 0 1 false v := by kernel_rfl
theorem fa46_1 (v : V) : vFieldAddr Try.prog 46 1 v = faddr 1 v := by kernel_rfl
theorem fg46_1 (s : St) (v : V) : vField Try.prog s 46 1 v = fget 1 1 false v := by kernel_rfl
theorem fa46_2 (v : V) : vFieldAddr Try.prog 46 2 v = faddr 2 v := by kernel_rfl
theorem fg46_2 (s : St) (v : V) : vField Try.prog s 46 2 v = fget 2 1 false v := by kernel_rfl
theorem ag47 : isAgg Try.prog 47 = false := by kernel_rfl
theorem ag48 : isAgg Try.prog 48 = false := by kernel_rfl
theorem ag49 : isAgg Try.prog 49 = false := by kernel_rfl
theorem ag50 : isAgg Try.prog 50 = false := by kernel_rfl
theorem sz51 : szOf Try.prog 51 = 3 := by kernel_rfl
theorem ag51 : isAgg Try.prog 51 = true := by kernel_rfl
theorem ze51 : zero Try.prog 51 = some [V.str ⟨#[]⟩, V.str ⟨#[]⟩, V.str ⟨#[]⟩] := by kernel_rfl
theorem fa51_0 (v : V) : vFieldAddr Try.prog 51 0 v = faddr 0 v := by kernel_rfl
theorem fg51_0 (s : St) (v : V) : vField Try.prog s 51 0 v = fget 0 1 false v := by kernel_rfl
theorem fa51_1 (v : V) : vFieldAddr Try.prog 51 1 v = faddr 1 v := by kernel_rfl
theorem fg51_1 (s : St) (v : V) : vField Try.prog s 51 1 v = fget 1 1 false v := by kernel_rfl
theorem fa51_2 (v : V) : vFieldAddr Try.prog 51 2 v = faddr 2 v := by kernel_rfl
theorem fg51_2 (s : St) (v : V) : vField Try.prog s 51 2 v = fget 2 1 false v := by kernel_rfl
theorem sz52 : szOf Try.prog 52 = 3 := by kernel_rfl
theorem ag52 : isAgg Try.prog 52 = true := by kernel_rfl
theorem ze52 : zero Try.prog 52 = some [V.str ⟨#[]⟩, V.str ⟨#[]⟩, V.str ⟨#[]⟩] := by kernel_rfl
theorem fa52_0 (v : V) : vFieldAddr Try.prog 52 0 v = faddr 0 v := by kernel_rfl
theorem fg52_0 (s : St) (v : V) : vField Try.prog s 52 0 v = fget 0 1 false v := by kernel_rfl
theorem fa52_1 (v : V) : vFieldAddr Try.prog 52 1 v = faddr 1 v := by kernel_rfl
theorem fg52_1 (s : St) (v : V) : vField Try.prog s 52 1 v = fget 1 1 false v := by kernel_rfl
theorem fa52_2 (v : V) : vFieldAddr Try.prog 52 2 v = faddr 2 v := by kernel_rfl
theorem fg52_2 (s : St) (v : V) : vField Try.prog s 52 2 v = fget 2 1 false v := by kernel_rfl
theorem ev52 (x0 y0 : ByteArray) (x1 y1 : ByteArray) (x2 y2 : ByteArray) : eqV Try.prog 52 (.agg [V.str x0, V.str x1, V.str x2]) (.agg [V.str y0, V.str y1, V.str y2]) = some ((x0.toList == y0.toList) && ((x1.toList == y1.toList) && ((x2.toList == y2.toList) && true))) := by kernel_rfl
theorem eg52 : Try.prog.eqGuardType Try.prog.depth 52 = false := by kernel_rfl
theorem sz53 : szOf Try.prog 53 = 5 := by kernel_rfl
theorem ag53 : isAgg Try.prog 53 = true := by kernel_rfl
theorem ze53 : zero Try.prog 53 = some [V.int .i64 0, V.slc true 3 [], V.str ⟨#[]⟩, V.str ⟨#[]⟩, V.str ⟨#[]⟩] := by kernel_rfl
theorem fa53_0 (v : V) : vFieldAddr Try.prog 53 0 v = faddr 0 v := by kernel_rfl
theorem fg53_0 (s : St) (v : V) : vField Try.prog s 53 0 v = fget 0 1 false v := by kernel_rfl
theorem fa53_1 (v : V) : vFieldAddr Try.prog 53 1 v = faddr 1 v := by kernel_rfl
theorem fg53_1 (s : St) (v : V) : vField Try.prog s 53 1 v = fget 1 1 false v := by kernel_rfl
theorem fa53_2 (v : V) : vFieldAddr Try.prog 53 2 v = faddr 2 v := by kernel_rfl
theorem fg53_2 (s : St) (v : V) : vField Try.prog s 53 2 v = fget 2 3 true v := by kernel_rfl
theorem sz54 : szOf Try.prog 54 = 5 := by kernel_rfl
theorem ag54 : isAgg Try.prog 54 = true := by kernel_rfl
theorem ze54 : zero Try.prog 54 = some [V.int .i64 0, V.slc true 3 [], V.str ⟨#[]⟩, V.str ⟨#[]⟩, V.str ⟨#[]⟩] := by kernel_rfl
theorem fa54_0 (v : V) : vFieldAddr Try.prog 54 0 v = faddr 0 v := by kernel_rfl
theorem fg54_0 (s : St) (v : V) : vField Try.prog s 54 0 v = fget 0 1 false v := by kernel_rfl
theorem fa54_1 (v : V) : vFieldAddr Try.prog 54 1 v = faddr 1 v := by kernel_rfl
theorem fg54_1 (s : St) (v : V) : vField Try.prog s 54 1 v = fget 1 1 false v := by kernel_rfl
theorem fa54_2 (v : V) : vFieldAddr Try.prog 54 2 v = faddr 2 v := by kernel_rfl
theorem fg54_2 (s : St) (v : V) : vField Try.prog s 54 2 v = fget 2 3 true v := by kernel_rfl
theorem ag55 : isAgg Try.prog 55 = false := by kernel_rfl
theorem ag56 : isAgg Try.prog 56 = false := by kernel_rfl
theorem sz57 : szOf Try.prog 57 = 3 := by kernel_rfl
theorem ag57 : isAgg Try.prog 57 = true := by kernel_rfl
theorem ze57 : zero Try.prog 57 = some [V.str ⟨#[]⟩, V.str ⟨#[]⟩, V.str ⟨#[]⟩] := by kernel_rfl
theorem fa57_0 (v : V) : vFieldAddr Try.prog 57 0 v = faddr 0 v := by kernel_rfl
theorem fg57_0 (s : St) (v : V) : vField Try.prog s 57 0 v = fget 0 1 false v := by kernel_rfl
theorem fa57_1 (v : V) : vFieldAddr Try.prog 57 1 v = faddr 1 v := by kernel_rfl
theorem fg57_1 (s : St) (v : V) : vField Try.prog s 57 1 v = fget 1 1 false v := by kernel_rfl
theorem fa57_2 (v : V) : vFieldAddr Try.prog 57 2 v = faddr 2 v := by kernel_rfl
theorem fg57_2 (s : St) (v : V) : vField Try.prog s 57 2 v = fget 2 1 false v := by kernel_rfl
theorem ev57 (x0 y0 : ByteArray) (x1 y1 : ByteArray) (x2 y2 : ByteArray) : eqV Try.prog 57 (.agg [V.str x0, V.str x1, V.str x2]) (.agg [V.str y0, V.str y1, V.str y2]) = some ((x0.toList == y0.toList) && ((x1.toList == y1.toList) && ((x2.toList == y2.toList) && true))) := by kernel_rfl
theorem eg57 : Try.prog.eqGuardType Try.prog.depth 57 = false := by kernel_rfl
theorem sz58 : szOf Try.prog 58 = 5 := by kernel_rfl
theorem ag58 : isAgg Try.prog 58 = true := by kernel_rfl
theorem ze58 : zero Try.prog 58 = some [V.int .i64 0, V.slc true 3 [], V.str ⟨#[]⟩, V.str ⟨#[]⟩, V.str ⟨#[]⟩] := by kernel_rfl
theorem fa58_0 (v : V) : vFieldAddr Try.prog 58 0 v = faddr 0 v := by kernel_rfl
theorem fg58_0 (s : St) (v : V) : vField Try.prog s 58 0 v = fget 0 1 false v := by kernel_rfl
theorem fa58_1 (v : V) : vFieldAddr Try.prog 58 1 v = faddr 1 v := by kernel_rfl
theorem fg58_1 (s : St) (v : V) : vField Try.prog s 58 1 v = fget 1 1 false v := by kernel_rfl
theorem fa58_2 (v : V) : vFieldAddr Try.prog 58 2 v = faddr 2 v := by kernel_rfl
theorem fg58_2 (s : St) (v : V) : vField Try.prog s 58 2 v = fget 2 3 true v := by kernel_rfl
theorem sz59 : szOf Try.prog 59 = 5 := by kernel_rfl
theorem ag59 : isAgg Try.prog 59 = true := by kernel_rfl
theorem ze59 : zero Try.prog 59 = some [V.int .i64 0, V.slc true 3 [], V.str ⟨#[]⟩, V.str ⟨#[]⟩, V.str ⟨#[]⟩] := by kernel_rfl
theorem fa59_0 (v : V) : vFieldAddr Try.prog 59 0 v = faddr 0 v := by kernel_rfl
theorem fg59_0 (s : St) (v : V) : vField Try.prog s 59 0 v = fget 0 1 false v := by kernel_rfl
theorem fa59_1 (v : V) : vFieldAddr Try.prog 59 1 v = faddr 1 v := by kernel_rfl
theorem fg59_1 (s : St) (v : V) : vField Try.prog s 59 1 v = fget 1 1 false v := by kernel_rfl
theorem fa59_2 (v : V) : vFieldAddr Try.prog 59 2 v = faddr 2 v := by kernel_rfl
theorem fg59_2 (s : St) (v : V) : vField Try.prog s 59 2 v = fget 2 3 true v := by kernel_rfl
theorem ag60 : isAgg Try.prog 60 = false := by kernel_rfl
theorem ag61 : isAgg Try.prog 61 = false := by kernel_rfl
theorem sz62 : szOf Try.prog 62 = 2 := by kernel_rfl
theorem ag62 : isAgg Try.prog 62 = true := by kernel_rfl
theorem ze62 : zero Try.prog 62 = some [V.str ⟨#[]⟩, V.str ⟨#[]⟩] := by kernel_rfl
theorem fa62_0 (v : V) : vFieldAddr Try.prog 62 0 v = faddr 0 v := by kernel_rfl
theorem fg62_0 (s : St) (v : V) : vField Try.prog s 62 0 v = fget 0 1 false v := by kernel_rfl
theorem fa62_1 (v : V) : vFieldAddr Try.prog 62 1 v = faddr 1 v := by kernel_rfl
theorem fg62_1 (s : St) (v : V) : vField Try.prog s 62 1 v = fget 1 1 false v := by kernel_rfl
theorem sz63 : szOf Try.prog 63 = 2 := by kernel_rfl
theorem ag63 : isAgg Try.prog 63 = true := by kernel_rfl
theorem ze63 : zero Try.prog 63 = some [V.str ⟨#[]⟩, V.str ⟨#[]⟩] := by kernel_rfl
theorem fa63_0 (v : V) : vFieldAddr Try.prog 63 0 v = faddr 0 v := by kernel_rfl
theorem fg63_0 (s : St) (v : V) : vField Try.prog s 63 0 v = fget 0 1 false v := by kernel_rfl
theorem fa63_1 (v : V) : vFieldAddr Try.prog 63 1 v = faddr 1 v := by kernel_rfl
theorem fg63_1 (s : St) (v : V) : vField Try.prog s 63 1 v = fget 1 1 false v := by kernel_rfl
theorem ev63 (x0 y0 : ByteArray) (x1 y1 : ByteArray) : eqV Try.prog 63 (.agg [V.str x0, V.str x1]) (.agg [V.str y0, V.str y1]) = some ((x0.toList == y0.toList) && ((x1.toList == y1.toList) && true)) := by kernel_rfl
theorem eg63 : Try.prog.eqGuardType Try.prog.depth 63 = false := by kernel_rfl
theorem u64 : Try.prog.underlying 64 = some (.slice 38) := by kernel_rfl
theorem sz64 : szOf Try.prog 64 = 1 := by kernel_rfl
theorem ag64 : isAgg Try.prog 64 = false := by kernel_rfl
theorem eo64 : elemOf Try.prog 64 = 38 := by kernel_rfl
theorem es64 : elemSz Try.prog 64 = 1 := by kernel_rfl
theorem gr64 : growB Try.prog 64 = true := by kernel_rfl
theorem df64 : dflt Try.prog 64 = V.slc false 1 [] := by kernel_rfl
theorem ze64 : zero Try.prog 64 = some [V.slc true 1 []] := by kernel_rfl
theorem sz65 : szOf Try.prog 65 = 3 := by kernel_rfl
theorem ag65 : isAgg Try.prog 65 = true := by kernel_rfl
theorem ze65 : zero Try.prog 65 = some [V.slc true 1 [], V.slc true 1 [], V.slc true 1 []] := by kernel_rfl
theorem fa65_0 (v : V) : vFieldAddr Try.prog 65 0 v = faddr 0 v := by kernel_rfl
theorem fg65_0 (s : St) (v : V) : vField Try.prog s 65 0 v = fget 0 1 false v := by kernel_rfl
theorem fa65_1 (v : V) : vFieldAddr Try.prog 65 1 v = faddr 1 v := by kernel_rfl
theorem fg65_1 (s : St) (v : V) : vField Try.prog s 65 1 v = fget 1 1 false v := by kernel_rfl
theorem fa65_2 (v : V) : vFieldAddr Try.prog 65 2 v = faddr 2 v := by kernel_rfl
theorem fg65_2 (s : St) (v : V) : vField Try.prog s 65 2 v = fget 2 1 false v := by kernel_rfl
theorem sz66 : szOf Try.prog 66 = 3 := by kernel_rfl
theorem ag66 : isAgg Try.prog 66 = true := by kernel_rfl
theorem ze66 : zero Try.prog 66 = some [V.slc true 1 [], V.slc true 1 [], V.slc true 1 []] := by kernel_rfl
theorem fa66_0 (v : V) : vFieldAddr Try.prog 66 0 v = faddr 0 v := by kernel_rfl
theorem fg66_0 (s : St) (v : V) : vField Try.prog s 66 0 v = fget 0 1 false v := by kernel_rfl
theorem fa66_1 (v : V) : vFieldAddr Try.prog 66 1 v = faddr 1 v := by kernel_rfl
theorem fg66_1 (s : St) (v : V) : vField Try.prog s 66 1 v = fget 1 1 false v := by kernel_rfl
theorem fa66_2 (v : V) : vFieldAddr Try.prog 66 2 v = faddr 2 v := by kernel_rfl
theorem fg66_2 (s : St) (v : V) : vField Try.prog s 66 2 v = fget 2 1 false v := by kernel_rfl
theorem sz67 : szOf Try.prog 67 = 6 := by kernel_rfl
theorem ag67 : isAgg Try.prog 67 = true := by kernel_rfl
theorem ze67 : zero Try.prog 67 = some [V.str ⟨#[]⟩, V.str ⟨#[]⟩, V.slc true 1 [], V.slc true 1 [], V.slc true 1 [], V.slc true 1 []] := by kernel_rfl
theorem fa67_0 (v : V) : vFieldAddr Try.prog 67 0 v = faddr 0 v := by kernel_rfl
theorem fg67_0 (s : St) (v : V) : vField Try.prog s 67 0 v = fget 0 2 true v := by kernel_rfl
theorem fa67_1 (v : V) : vFieldAddr Try.prog 67 1 v = faddr 2 v := by kernel_rfl
theorem fg67_1 (s : St) (v : V) : vField Try.prog s 67 1 v = fget 2 3 true v := by kernel_rfl
theorem fa67_2 (v : V) : vFieldAddr Try.prog 67 2 v = faddr 5 v := by kernel_rfl
theorem fg67_2 (s : St) (v : V) : vField Try.prog s 67 2 v = fget 5 1 false v := by kernel_rfl
theorem sz68 : szOf Try.prog 68 = 6 := by kernel_rfl
theorem ag68 : isAgg Try.prog 68 = true := by kernel_rfl
theorem ze68 : zero Try.prog 68 = some [V.str ⟨#[]⟩, V.str ⟨#[]⟩, V.slc true 1 [], V.slc true 1 [], V.slc true 1 [], V.slc true 1 []] := by kernel_rfl
theorem fa68_0 (v : V) : vFieldAddr Try.prog 68 0 v = faddr 0 v := by kernel_rfl
theorem fg68_0 (s : St) (v : V) : vField Try.prog s 68 0 v = fget 0 2 true v := by kernel_rfl
theorem fa68_1 (v : V) : vFieldAddr Try.prog 68 1 v = faddr 2 v := by kernel_rfl
theorem fg68_1 (s : St) (v : V) : vField Try.prog s 68 1 v = fget 2 3 true v := by kernel_rfl
theorem fa68_2 (v : V) : vFieldAddr Try.prog 68 2 v = faddr 5 v := by kernel_rfl
theorem fg68_2 (s : St) (v : V) : vField Try.prog s 68 2 v = fget 5 1 false v := by kernel_rfl
theorem ag69 : isAgg Try.prog 69 = false := by kernel_rfl
theorem ag70 : isAgg Try.prog 70 = false := by kernel_rfl
theorem ag71 : isAgg Try.prog 71 = false := by kernel_rfl
theorem sz72 : szOf Try.prog 72 = 2 := by kernel_rfl
theorem ag72 : isAgg Try.prog 72 = true := by kernel_rfl
theorem ze72 : zero Try.prog 72 = some [V.str ⟨#[]⟩, V.str ⟨#[]⟩] := by kernel_rfl
theorem fa72_0 (v : V) : vFieldAddr Try.prog 72 0 v = faddr 0 v := by kernel_rfl
theorem fg72_0 (s : St) (v : V) : vField Try.prog s 72 0 v = fget 0 1 false v := by kernel_rfl
theorem fa72_1 (v : V) : vFieldAddr Try.prog 72 1 v = faddr 1 v := by kernel_rfl
theorem fg72_1 (s : St) (v : V) : vField Try.prog s 72 1 v = fget 1 1 false v := by kernel_rfl
theorem ev72 (x0 y0 : ByteArray) (x1 y1 : ByteArray) : eqV Try.prog 72 (.agg [V.str x0, V.str x1]) (.agg [V.str y0, V.str y1]) = some ((x0.toList == y0.toList) && ((x1.toList == y1.toList) && true)) := by kernel_rfl
theorem eg72 : Try.prog.eqGuardType Try.prog.depth 72 = false := by kernel_rfl
theorem sz73 : szOf Try.prog 73 = 3 := by kernel_rfl
theorem ag73 : isAgg Try.prog 73 = true := by kernel_rfl
theorem ze73 : zero Try.prog 73 = some [V.slc true 1 [], V.slc true 1 [], V.slc true 1 []] := by kernel_rfl
theorem fa73_0 (v : V) : vFieldAddr Try.prog 73 0 v = faddr 0 v := by kernel_rfl
theorem fg73_0 (s : St) (v : V) : vField Try.prog s 73 0 v = fget 0 1 false v := by kernel_rfl
theorem fa73_1 (v : V) : vFieldAddr Try.prog 73 1 v = faddr 1 v := by kernel_rfl
theorem fg73_1 (s : St) (v : V) : vField Try.prog s 73 1 v = fget 1 1 false v := by kernel_rfl
theorem fa73_2 (v : V) : vFieldAddr Try.prog 73 2 v = faddr 2 v := by kernel_rfl
theorem fg73_2 (s : St) (v : V) : vField Try.prog s 73 2 v = fget 2 1 false v := by kernel_rfl
theorem sz74 : szOf Try.prog 74 = 6 := by kernel_rfl
theorem ag74 : isAgg Try.prog 74 = true := by kernel_rfl
theorem ze74 : zero Try.prog 74 = some [V.str ⟨#[]⟩, V.str ⟨#[]⟩, V.slc true 1 [], V.slc true 1 [], V.slc true 1 [], V.slc true 1 []] := by kernel_rfl
theorem fa74_0 (v : V) : vFieldAddr Try.prog 74 0 v = faddr 0 v := by kernel_rfl
theorem fg74_0 (s : St) (v : V) : vField Try.prog s 74 0 v = fget 0 2 true v := by kernel_rfl
theorem fa74_1 (v : V) : vFieldAddr Try.prog 74 1 v = faddr 2 v := by kernel_rfl
theorem fg74_1 (s : St) (v : V) : vField Try.prog s 74 1 v = fget 2 3 true v := by kernel_rfl
theorem fa74_2 (v : V) : vFieldAddr Try.prog 74 2 v = faddr 5 v := by kernel_rfl
theorem fg74_2 (s : St) (v : V) : vField Try.prog s 74 2 v = fget 5 1 false v := by kernel_rfl
theorem sz75 : szOf Try.prog 75 = 6 := by kernel_rfl
theorem ag75 : isAgg Try.prog 75 = true := by kernel_rfl
theorem ze75 : zero Try.prog 75 = some [V.str ⟨#[]⟩, V.str ⟨#[]⟩, V.slc true 1 [], V.slc true 1 [], V.slc true 1 [], V.slc true 1 []] := by kernel_rfl
theorem fa75_0 (v : V) : vFieldAddr Try.prog 75 0 v = faddr 0 v := by kernel_rfl
theorem fg75_0 (s : St) (v : V) : vField Try.prog s 75 0 v = fget 0 2 true v := by kernel_rfl
theorem fa75_1 (v : V) : vFieldAddr Try.prog 75 1 v = faddr 2 v := by kernel_rfl
theorem fg75_1 (s : St) (v : V) : vField Try.prog s 75 1 v = fget 2 3 true v := by kernel_rfl
theorem fa75_2 (v : V) : vFieldAddr Try.prog 75 2 v = faddr 5 v := by kernel_rfl
theorem fg75_2 (s : St) (v : V) : vField Try.prog s 75 2 v = fget 5 1 false v := by kernel_rfl
theorem ag76 : isAgg Try.prog 76 = false := by kernel_rfl
theorem ag77 : isAgg Try.prog 77 = false := by kernel_rfl
theorem ag78 : isAgg Try.prog 78 = false := by kernel_rfl
theorem ag79 : isAgg Try.prog 79 = false := by kernel_rfl
theorem u80 : Try.prog.underlying 80 = some (.slice 177) := by kernel_rfl
theorem sz80 : szOf Try.prog 80 = 1 := by kernel_rfl
theorem ag80 : isAgg Try.prog 80 = false := by kernel_rfl
theorem eo80 : elemOf Try.prog 80 = 177 := by kernel_rfl
theorem es80 : elemSz Try.prog 80 = 8 := by kernel_rfl
theorem gr80 : growB Try.prog 80 = true := by kernel_rfl
theorem df80 : dflt Try.prog 80 = V.agg [V.int .i64 0, V.str ⟨#[]⟩, V.str ⟨#[]⟩, V.int .i64 0, V.str ⟨#[]⟩, V.slc false 3 [], V.slc false 1 [], V.int .i64 0] := by kernel_rfl
theorem ze80 : zero Try.prog 80 = some [V.slc true 8 []] := by kernel_rfl
theorem sz81 : szOf Try.prog 81 = 1 := by kernel_rfl
theorem ag81 : isAgg Try.prog 81 = true := by kernel_rfl
theorem ze81 : zero Try.prog 81 = some [V.slc true 8 []] := by kernel_rfl
theorem fa81_0 (v : V) : vFieldAddr Try.prog 81 0 v = faddr 0 v := by kernel_rfl
theorem fg81_0 (s : St) (v : V) : vField Try.prog s 81 0 v = fget 0 1 false v := by kernel_rfl
theorem sz82 : szOf Try.prog 82 = 1 := by kernel_rfl
theorem ag82 : isAgg Try.prog 82 = true := by kernel_rfl
theorem ze82 : zero Try.prog 82 = some [V.slc true 8 []] := by kernel_rfl
theorem fa82_0 (v : V) : vFieldAddr Try.prog 82 0 v = faddr 0 v := by kernel_rfl
theorem fg82_0 (s : St) (v : V) : vField Try.prog s 82 0 v = fget 0 1 false v := by kernel_rfl
theorem sz83 : szOf Try.prog 83 = 6 := by kernel_rfl
theorem ag83 : isAgg Try.prog 83 = true := by kernel_rfl
theorem ze83 : zero Try.prog 83 = some [V.int .i64 0, V.str ⟨#[]⟩, V.str ⟨#[]⟩, V.str ⟨#[]⟩, V.slc true 3 [], V.int .i64 0] := by kernel_rfl
theorem fa83_0 (v : V) : vFieldAddr Try.prog 83 0 v = faddr 0 v := by kernel_rfl
theorem fg83_0 (s : St) (v : V) : vField Try.prog s 83 0 v = fget 0 1 false v := by kernel_rfl
theorem fa83_1 (v : V) : vFieldAddr Try.prog 83 1 v = faddr 1 v := by kernel_rfl
theorem fg83_1 (s : St) (v : V) : vField Try.prog s 83 1 v = fget 1 3 true v := by kernel_rfl
theorem fa83_2 (v : V) : vFieldAddr Try.prog 83 2 v = faddr 4 v := by kernel_rfl
theorem fg83_2 (s : St) (v : V) : vField Try.prog s 83 2 v = fget 4 1 false v := by kernel_rfl
theorem fa83_3 (v : V) : vFieldAddr Try.prog 83 3 v = faddr 5 v := by kernel_rfl
theorem fg83_3 (s : St) (v : V) : vField Try.prog s 83 3 v = fget 5 1 false v := by kernel_rfl
theorem sz84 : szOf Try.prog 84 = 6 := by kernel_rfl
theorem ag84 : isAgg Try.prog 84 = true := by kernel_rfl
theorem ze84 : zero Try.prog 84 = some [V.int .i64 0, V.str ⟨#[]⟩, V.str ⟨#[]⟩, V.str ⟨#[]⟩, V.slc true 3 [], V.int .i64 0] := by kernel_rfl
theorem fa84_0 (v : V) : vFieldAddr Try.prog 84 0 v = faddr 0 v := by kernel_rfl
theorem fg84_0 (s : St) (v : V) : vField Try.prog s 84 0 v = fget 0 1 false v := by kernel_rfl
theorem fa84_1 (v : V) : vFieldAddr Try.prog 84 1 v = faddr 1 v := by kernel_rfl
theorem fg84_1 (s : St) (v : V) : vField Try.prog s 84 1 v = fget 1 3 true v := by kernel_rfl
theorem fa84_2 (v : V) : vFieldAddr Try.prog 84 2 v = faddr 4 v := by kernel_rfl
theorem fg84_2 (s : St) (v : V) : vField Try.prog s 84 2 v = fget 4 1 false v := by kernel_rfl
theorem fa84_3 (v : V) : vFieldAddr Try.prog 84 3 v = faddr 5 v := by kernel_rfl
theorem fg84_3 (s : St) (v : V) : vField Try.prog s 84 3 v = fget 5 1 false v := by kernel_rfl
theorem u85 : Try.prog.underlying 85 = some (.slice 180) := by kernel_rfl
theorem sz85 : szOf Try.prog 85 = 1 := by kernel_rfl
theorem ag85 : isAgg Try.prog 85 = false := by kernel_rfl
theorem eo85 : elemOf Try.prog 85 = 180 := by kernel_rfl
theorem es85 : elemSz Try.prog 85 = 8 := by kernel_rfl
theorem gr85 : growB Try.prog 85 = true := by kernel_rfl
theorem df85 : dflt Try.prog 85 = V.agg [V.int .i64 0, V.str ⟨#[]⟩, V.str ⟨#[]⟩, V.str ⟨#[]⟩, V.str ⟨#[]⟩, V.int .i64 0, V.str ⟨#[]⟩, V.slc false 3 []] := by kernel_rfl
theorem ze85 : zero Try.prog 85 = some [V.slc true 8 []] := by kernel_rfl
theorem sz86 : szOf Try.prog 86 = 1 := by kernel_rfl
theorem ag86 : isAgg Try.prog 86 = true := by kernel_rfl
theorem ze86 : zero Try.prog 86 = some [V.slc true 8 []] := by kernel_rfl
theorem fa86_0 (v : V) : vFieldAddr Try.prog 86 0 v = faddr 0 v := by kernel_rfl
theorem fg86_0 (s : St) (v : V) : vField Try.prog s 86 0 v = fget 0 1 false v := by kernel_rfl
theorem sz87 : szOf Try.prog 87 = 1 := by kernel_rfl
theorem ag87 : isAgg Try.prog 87 = true := by kernel_rfl
theorem ze87 : zero Try.prog 87 = some [V.slc true 8 []] := by kernel_rfl
theorem fa87_0 (v : V) : vFieldAddr Try.prog 87 0 v = faddr 0 v := by kernel_rfl
theorem fg87_0 (s : St) (v : V) : vField Try.prog s 87 0 v = fget 0 1 false v := by kernel_rfl
theorem sz88 : szOf Try.prog 88 = 8 := by kernel_rfl
theorem ag88 : isAgg Try.prog 88 = true := by kernel_rfl
theorem ze88 : zero Try.prog 88 = some [V.slc true 8 [], V.int .i64 0, V.str ⟨#[]⟩, V.str ⟨#[]⟩, V.str ⟨#[]⟩, V.slc true 3 [], V.int .i64 0, V.slc true 8 []] := by kernel_rfl
theorem fa88_0 (v : V) : vFieldAddr Try.prog 88 0 v = faddr 0 v := by kernel_rfl
theorem fg88_0 (s : St) (v : V) : vField Try.prog s 88 0 v = fget 0 1 true v := by kernel_rfl
theorem fa88_1 (v : V) : vFieldAddr Try.prog 88 1 v = faddr 1 v := by kernel_rfl
theorem fg88_1 (s : St) (v : V) : vField Try.prog s 88 1 v = fget 1 6 true v := by kernel_rfl
theorem fa88_2 (v : V) : vFieldAddr Try.prog 88 2 v = faddr 7 v := by kernel_rfl
theorem fg88_2 (s : St) (v : V) : vField Try.prog s 88 2 v = fget 7 1 true v := by kernel_rfl
theorem sz89 : szOf Try.prog 89 = 8 := by kernel_rfl
theorem ag89 : isAgg Try.prog 89 = true := by kernel_rfl
theorem ze89 : zero Try.prog 89 = some [V.slc true 8 [], V.int .i64 0, V.str ⟨#[]⟩, V.str ⟨#[]⟩, V.str ⟨#[]⟩, V.slc true 3 [], V.int .i64 0, V.slc true 8 []] := by kernel_rfl
theorem fa89_0 (v : V) : vFieldAddr Try.prog 89 0 v = faddr 0 v := by kernel_rfl
theorem fg89_0 (s : St) (v : V) : vField Try.prog s 89 0 v = fget 0 1 true v := by kernel_rfl
theorem fa89_1 (v : V) : vFieldAddr Try.prog 89 1 v = faddr 1 v := by kernel_rfl
theorem fg89_1 (s : St) (v : V) : vField Try.prog s 89 1 v = fget 1 6 true v := by kernel_rfl
theorem fa89_2 (v : V) : vFieldAddr Try.prog 89 2 v = faddr 7 v := by kernel_rfl
theorem fg89_2 (s : St) (v : V) : vField Try.prog s 89 2 v = fget 7 1 true v := by kernel_rfl
theorem ag90 : isAgg Try.prog 90 = false := by kernel_rfl
theorem ag91 : isAgg Try.prog 91 = false := by kernel_rfl
theorem u92 : Try.prog.underlying 92 = some (.slice 162) := by kernel_rfl
theorem sz92 : szOf Try.prog 92 = 1 := by kernel_rfl
theorem ag92 : isAgg Try.prog 92 = false := by kernel_rfl
theorem eo92 : elemOf Try.prog 92 = 162 := by kernel_rfl
theorem es92 : elemSz Try.prog 92 = 8 := by kernel_rfl
theorem gr92 : growB Try.prog 92 = true := by kernel_rfl
theorem df92 : dflt Try.prog 92 = V.agg [V.int .i64 0, V.str ⟨#[]⟩, V.str ⟨#[]⟩, V.int .i64 0, V.str ⟨#[]⟩, V.slc false 3 [], V.slc false 1 [], V.int .i64 0] := by kernel_rfl
theorem ze92 : zero Try.prog 92 = some [V.slc true 8 []] := by kernel_rfl
theorem sz93 : szOf Try.prog 93 = 1 := by kernel_rfl
theorem ag93 : isAgg Try.prog 93 = true := by kernel_rfl
theorem ze93 : zero Try.prog 93 = some [V.slc true 8 []] := by kernel_rfl
theorem fa93_0 (v : V) : vFieldAddr Try.prog 93 0 v = faddr 0 v := by kernel_rfl
theorem fg93_0 (s : St) (v : V) : vField Try.prog s 93 0 v = fget 0 1 false v := by kernel_rfl
theorem sz94 : szOf Try.prog 94 = 1 := by kernel_rfl
theorem ag94 : isAgg Try.prog 94 = true := by kernel_rfl
theorem ze94 : zero Try.prog 94 = some [V.slc true 8 []] := by kernel_rfl
theorem fa94_0 (v : V) : vFieldAddr Try.prog 94 0 v = faddr 0 v := by kernel_rfl
theorem fg94_0 (s : St) (v : V) : vField Try.prog s 94 0 v = fget 0 1 false v := by kernel_rfl
theorem sz95 : szOf Try.prog 95 = 6 := by kernel_rfl
theorem ag95 : isAgg Try.prog 95 = true := by kernel_rfl
theorem ze95 : zero Try.prog 95 = some [V.int .i64 0, V.str ⟨#[]⟩, V.str ⟨#[]⟩, V.str ⟨#[]⟩, V.slc true 3 [], V.int .i64 0] := by kernel_rfl
theorem fa95_0 (v : V) : vFieldAddr Try.prog 95 0 v = faddr 0 v := by kernel_rfl
theorem fg95_0 (s : St) (v : V) : vField Try.prog s 95 0 v = fget 0 1 false v := by kernel_rfl
theorem fa95_1 (v : V) : vFieldAddr Try.prog 95 1 v = faddr 1 v := by kernel_rfl
theorem fg95_1 (s : St) (v : V) : vField Try.prog s 95 1 v = fget 1 3 true v := by kernel_rfl
theorem fa95_2 (v : V) : vFieldAddr Try.prog 95 2 v = faddr 4 v := by kernel_rfl
theorem fg95_2 (s : St) (v : V) : vField Try.prog s 95 2 v = fget 4 1 false v := by kernel_rfl
theorem fa95_3 (v : V) : vFieldAddr Try.prog 95 3 v = faddr 5 v := by kernel_rfl
theorem fg95_3 (s : St) (v : V) : vField Try.prog s 95 3 v = fget 5 1 false v := by kernel_rfl
theorem sz96 : szOf Try.prog 96 = 6 := by kernel_rfl
theorem ag96 : isAgg Try.prog 96 = true := by kernel_rfl
theorem ze96 : zero Try.prog 96 = some [V.int .i64 0, V.str ⟨#[]⟩, V.str ⟨#[]⟩, V.str ⟨#[]⟩, V.slc true 3 [], V.int .i64 0] := by kernel_rfl
theorem fa96_0 (v : V) : vFieldAddr Try.prog 96 0 v = faddr 0 v := by kernel_rfl
theorem fg96_0 (s : St) (v : V) : vField Try.prog s 96 0 v = fget 0 1 false v := by kernel_rfl
theorem fa96_1 (v : V) : vFieldAddr Try.prog 96 1 v = faddr 1 v := by kernel_rfl
theorem fg96_1 (s : St) (v : V) : vField Try.prog s 96 1 v = fget 1 3 true v := by kernel_rfl
theorem fa96_2 (v : V) : vFieldAddr Try.prog 96 2 v = faddr 4 v := by kernel_rfl
theorem fg96_2 (s : St) (v : V) : vField Try.prog s 96 2 v = fget 4 1 false v := by kernel_rfl
theorem fa96_3 (v : V) : vFieldAddr Try.prog 96 3 v = faddr 5 v := by kernel_rfl
theorem fg96_3 (s : St) (v : V) : vField Try.prog s 96 3 v = fget 5 1 false v := by kernel_rfl
theorem u97 : Try.prog.underlying 97 = some (.slice 146) := by kernel_rfl
theorem sz97 : szOf Try.prog 97 = 1 := by kernel_rfl
theorem ag97 : isAgg Try.prog 97 = false := by kernel_rfl
theorem eo97 : elemOf Try.prog 97 = 146 := by kernel_rfl
theorem es97 : elemSz Try.prog 97 = 8 := by kernel_rfl
theorem gr97 : growB Try.prog 97 = true := by kernel_rfl
theorem df97 : dflt Try.prog 97 = V.agg [V.int .i64 0, V.str ⟨#[]⟩, V.str ⟨#[]⟩, V.str ⟨#[]⟩, V.str ⟨#[]⟩, V.int .i64 0, V.str ⟨#[]⟩, V.slc false 3 []] := by kernel_rfl
theorem ze97 : zero Try.prog 97 = some [V.slc true 8 []] := by kernel_rfl
theorem sz98 : szOf Try.prog 98 = 1 := by kernel_rfl
theorem ag98 : isAgg Try.prog 98 = true := by kernel_rfl
theorem ze98 : zero Try.prog 98 = some [V.slc true 8 []] := by kernel_rfl
theorem fa98_0 (v : V) : vFieldAddr Try.prog 98 0 v = faddr 0 v := by kernel_rfl
theorem fg98_0 (s : St) (v : V) : vField Try.prog s 98 0 v = fget 0 1 false v := by kernel_rfl
theorem sz99 : szOf Try.prog 99 = 1 := by kernel_rfl
theorem ag99 : isAgg Try.prog 99 = true := by kernel_rfl
theorem ze99 : zero Try.prog 99 = some [V.slc true 8 []] := by kernel_rfl
theorem fa99_0 (v : V) : vFieldAddr Try.prog 99 0 v = faddr 0 v := by kernel_rfl
theorem fg99_0 (s : St) (v : V) : vField Try.prog s 99 0 v = fget 0 1 false v := by kernel_rfl
theorem sz100 : szOf Try.prog 100 = 8 := by kernel_rfl
theorem ag100 : isAgg Try.prog 100 = true := by kernel_rfl
theorem ze100 : zero Try.prog 100 = some [V.slc true 8 [], V.int .i64 0, V.str ⟨#[]⟩, V.str ⟨#[]⟩, V.str ⟨#[]⟩, V.slc true 3 [], V.int .i64 0, V.slc true 8 []] := by kernel_rfl
theorem fa100_0 (v : V) : vFieldAddr Try.prog 100 0 v = faddr 0 v := by kernel_rfl
theorem fg100_0 (s : St) (v : V) : vField Try.prog s 100 0 v = fget 0 1 true v := by kernel_rfl
theorem fa100_1 (v : V) : vFieldAddr Try.prog 100 1 v = faddr 1 v := by kernel_rfl
theorem fg100_1 (s : St) (v : V) : vField Try.prog s 100 1 v = fget 1 6 true v := by kernel_rfl
theorem fa100_2 (v : V) : vFieldAddr Try.prog 100 2 v = faddr 7 v := by kernel_rfl
theorem fg100_2 (s : St) (v : V) : vField Try.prog s 100 2 v = fget 7 1 true v := by kernel_rfl
theorem sz101 : szOf Try.prog 101 = 8 := by kernel_rfl
theorem ag101 : isAgg Try.prog 101 = true := by kernel_rfl
theorem ze101 : zero Try.prog 101 = some [V.slc true 8 [], V.int .i64 0, V.str ⟨#[]⟩, V.str ⟨#[]⟩, V.str ⟨#[]⟩, V.slc true 3 [], V.int .i64 0, V.slc true 8 []] := by kernel_rfl
theorem fa101_0 (v : V) : vFieldAddr Try.prog 101 0 v = faddr 0 v := by kernel_rfl
theorem fg101_0 (s : St) (v : V) : vField Try.prog s 101 0 v = fget 0 1 true v := by kernel_rfl
theorem fa101_1 (v : V) : vFieldAddr Try.prog 101 1 v = faddr 1 v := by kernel_rfl
theorem fg101_1 (s : St) (v : V) : vField Try.prog s 101 1 v = fget 1 6 true v := by kernel_rfl
theorem fa101_2 (v : V) : vFieldAddr Try.prog 101 2 v = faddr 7 v := by kernel_rfl
theorem fg101_2 (s : St) (v : V) : vField Try.prog s 101 2 v = fget 7 1 true v := by kernel_rfl
theorem ag102 : isAgg Try.prog 102 = false := by kernel_rfl
theorem ag103 : isAgg Try.prog 103 = false := by kernel_rfl
theorem u104 : Try.prog.underlying 104 = some (.slice 9) := by kernel_rfl
theorem sz104 : szOf Try.prog 104 = 1 := by kernel_rfl
theorem ag104 : isAgg Try.prog 104 = false := by kernel_rfl
theorem eo104 : elemOf Try.prog 104 = 9 := by kernel_rfl
theorem es104 : elemSz Try.prog 104 = 1 := by kernel_rfl
theorem gr104 : growB Try.prog 104 = true := by kernel_rfl
theorem df104 : dflt Try.prog 104 = V.str ⟨#[]⟩ := by kernel_rfl
theorem ze104 : zero Try.prog 104 = some [V.slc true 1 []] := by kernel_rfl
theorem ag105 : isAgg Try.prog 105 = false := by kernel_rfl
theorem ag106 : isAgg Try.prog 106 = false := by kernel_rfl
theorem ag107 : isAgg Try.prog 107 = false := by kernel_rfl
theorem ag108 : isAgg Try.prog 108 = false := by kernel_rfl
theorem ag109 : isAgg Try.prog 109 = false := by kernel_rfl
theorem ag110 : isAgg Try.prog 110 = false := by kernel_rfl
theorem ag111 : isAgg Try.prog 111 = false := by kernel_rfl
theorem ag112 : isAgg Try.prog 112 = false := by kernel_rfl
theorem ag113 : isAgg Try.prog 113 = false := by kernel_rfl
theorem ag114 : isAgg Try.prog 114 = false := by kernel_rfl
theorem ag115 : isAgg Try.prog 115 = false := by kernel_rfl
theorem ag116 : isAgg Try.prog 116 = false := by kernel_rfl
theorem ag117 : isAgg Try.prog 117 = false := by kernel_rfl
theorem ag118 : isAgg Try.prog 118 = false := by kernel_rfl
theorem ag119 : isAgg Try.prog 119 = false := by kernel_rfl
theorem ag120 : isAgg Try.prog 120 = false := by kernel_rfl
theorem ag121 : isAgg Try.prog 121 = false := by kernel_rfl
theorem ag123 : isAgg Try.prog 123 = false := by kernel_rfl
theorem ag124 : isAgg Try.prog 124 = false := by kernel_rfl
theorem ag125 : isAgg Try.prog 125 = false := by kernel_rfl
theorem ag126 : isAgg Try.prog 126 = false := by kernel_rfl
theorem ag127 : isAgg Try.prog 127 = false := by kernel_rfl
theorem ag128 : isAgg Try.prog 128 = false := by kernel_rfl
theorem ag129 : isAgg Try.prog 129 = false := by kernel_rfl
theorem ag130 : isAgg Try.prog 130 = false := by kernel_rfl
theorem ag131 : isAgg Try.prog 131 = false := by kernel_rfl
theorem ag132 : isAgg Try.prog 132 = false := by kernel_rfl
theorem ag133 : isAgg Try.prog 133 = false := by kernel_rfl
theorem ag134 : isAgg Try.prog 134 = false := by kernel_rfl
theorem ag135 : isAgg Try.prog 135 = false := by kernel_rfl
theorem ag136 : isAgg Try.prog 136 = false := by kernel_rfl
theorem ag137 : isAgg Try.prog 137 = false := by kernel_rfl
theorem ag138 : isAgg Try.prog 138 = false := by kernel_rfl
theorem ag139 : isAgg Try.prog 139 = false := by kernel_rfl
theorem ag140 : isAgg Try.prog 140 = false := by kernel_rfl
theorem ag141 : isAgg Try.prog 141 = false := by kernel_rfl
theorem u142 : Try.prog.underlying 142 = some (.slice 144) := by kernel_rfl
theorem sz142 : szOf Try.prog 142 = 1 := by kernel_rfl
theorem ag142 : isAgg Try.prog 142 = false := by kernel_rfl
theorem eo142 : elemOf Try.prog 142 = 144 := by kernel_rfl
theorem es142 : elemSz Try.prog 142 = 3 := by kernel_rfl
theorem gr142 : growB Try.prog 142 = true := by kernel_rfl
theorem df142 : dflt Try.prog 142 = V.agg [V.int .i64 0, V.str ⟨#[]⟩, V.slc false 3 []] := by kernel_rfl
theorem ze142 : zero Try.prog 142 = some [V.slc true 3 []] := by kernel_rfl
theorem sz143 : szOf Try.prog 143 = 3 := by kernel_rfl
theorem ag143 : isAgg Try.prog 143 = true := by kernel_rfl
theorem ze143 : zero Try.prog 143 = some [V.int .i64 0, V.str ⟨#[]⟩, V.slc true 3 []] := by kernel_rfl
theorem fa143_0 (v : V) : vFieldAddr Try.prog 143 0 v = faddr 0 v := by kernel_rfl
theorem fg143_0 (s : St) (v : V) : vField Try.prog s 143 0 v = fget 0 1 false v := by kernel_rfl
theorem fa143_1 (v : V) : vFieldAddr Try.prog 143 1 v = faddr 1 v := by kernel_rfl
theorem fg143_1 (s : St) (v : V) : vField Try.prog s 143 1 v = fget 1 1 false v := by kernel_rfl
theorem fa143_2 (v : V) : vFieldAddr Try.prog 143 2 v = faddr 2 v := by kernel_rfl
theorem fg143_2 (s : St) (v : V) : vField Try.prog s 143 2 v = fget 2 1 false v := by kernel_rfl
theorem sz144 : szOf Try.prog 144 = 3 := by kernel_rfl
theorem ag144 : isAgg Try.prog 144 = true := by kernel_rfl
theorem ze144 : zero Try.prog 144 = some [V.int .i64 0, V.str ⟨#[]⟩, V.slc true 3 []] := by kernel_rfl
theorem fa144_0 (v : V) : vFieldAddr Try.prog 144 0 v = faddr 0 v := by kernel_rfl
theorem fg144_0 (s : St) (v : V) : vField Try.prog s 144 0 v = fget 0 1 false v := by kernel_rfl
theorem fa144_1 (v : V) : vFieldAddr Try.prog 144 1 v = faddr 1 v := by kernel_rfl
theorem fg144_1 (s : St) (v : V) : vField Try.prog s 144 1 v = fget 1 1 false v := by kernel_rfl
theorem fa144_2 (v : V) : vFieldAddr Try.prog 144 2 v = faddr 2 v := by kernel_rfl
theorem fg144_2 (s : St) (v : V) : vField Try.prog s 144 2 v = fget 2 1 false v := by kernel_rfl
theorem sz145 : szOf Try.prog 145 = 8 := by kernel_rfl
theorem ag145 : isAgg Try.prog 145 = true := by kernel_rfl
theorem ze145 : zero Try.prog 145 = some [V.int .i64 0, V.str ⟨#[]⟩, V.str ⟨#[]⟩, V.str ⟨#[]⟩, V.str ⟨#[]⟩, V.int .i64 0, V.str ⟨#[]⟩, V.slc true 3 []] := by kernel_rfl
theorem fa145_0 (v : V) : vFieldAddr Try.prog 145 0 v = faddr 0 v := by kernel_rfl
theorem fg145_0 (s : St) (v : V) : vField Try.prog s 145 0 v = fget 0 1 false v := by kernel_rfl
theorem fa145_1 (v : V) : vFieldAddr Try.prog 145 1 v = faddr 1 v := by kernel_rfl
theorem fg145_1 (s : St) (v : V) : vField Try.prog s 145 1 v = fget 1 1 false v := by kernel_rfl
theorem fa145_2 (v : V) : vFieldAddr Try.prog 145 2 v = faddr 2 v := by kernel_rfl
theorem fg145_2 (s : St) (v : V) : vField Try.prog s 145 2 v = fget 2 3 true v := by kernel_rfl
theorem fa145_3 (v : V) : vFieldAddr Try.prog 145 3 v = faddr 5 v := by kernel_rfl
theorem fg145_3 (s : St) (v : V) : vField Try.prog s 145 3 v = fget 5 3 true v := by kernel_rfl
theorem sz146 : szOf Try.prog 146 = 8 := by kernel_rfl
theorem ag146 : isAgg Try.prog 146 = true := by kernel_rfl
theorem ze146 : zero Try.prog 146 = some [V.int .i64 0, V.str ⟨#[]⟩, V.str ⟨#[]⟩, V.str ⟨#[]⟩, V.str ⟨#[]⟩, V.int .i64 0, V.str ⟨#[]⟩, V.slc true 3 []] := by kernel_rfl
theorem fa146_0 (v : V) : vFieldAddr Try.prog 146 0 v = faddr 0 v := by kernel_rfl
theorem fg146_0 (s : St) (v : V) : vField Try.prog s 146 0 v = fget 0 1 false v := by kernel_rfl
theorem fa146_1 (v : V) : vFieldAddr Try.prog 146 1 v = faddr 1 v := by kernel_rfl
theorem fg146_1 (s : St) (v : V) : vField Try.prog s 146 1 v = fget 1 1 false v := by kernel_rfl
theorem fa146_2 (v : V) : vFieldAddr Try.prog 146 2 v = faddr 2 v := by kernel_rfl
theorem fg146_2 (s : St) (v : V) : vField Try.prog s 146 2 v = fget 2 3 true v := by kernel_rfl
theorem fa146_3 (v : V) : vFieldAddr Try.prog 146 3 v = faddr 5 v := by kernel_rfl
theorem fg146_3 (s : St) (v : V) : vField Try.prog s 146 3 v = fget 5 3 true v := by kernel_rfl
theorem ag147 : isAgg Try.prog 147 = false := by kernel_rfl
theorem u148 : Try.prog.underlying 148 = some (.slice 5) := by kernel_rfl
theorem sz148 : szOf Try.prog 148 = 1 := by kernel_rfl
theorem ag148 : isAgg Try.prog 148 = false := by kernel_rfl
theorem eo148 : elemOf Try.prog 148 = 5 := by kernel_rfl
theorem es148 : elemSz Try.prog 148 = 1 := by kernel_rfl
theorem gr148 : growB Try.prog 148 = true := by kernel_rfl
theorem df148 : dflt Try.prog 148 = V.int .u8 0 := by kernel_rfl
theorem ze148 : zero Try.prog 148 = some [V.slc true 1 []] := by kernel_rfl
theorem ag150 : isAgg Try.prog 150 = false := by kernel_rfl
theorem ag151 : isAgg Try.prog 151 = false := by kernel_rfl
theorem ag152 : isAgg Try.prog 152 = false := by kernel_rfl
theorem ag153 : isAgg Try.prog 153 = false := by kernel_rfl
theorem ag154 : isAgg Try.prog 154 = false := by kernel_rfl
theorem ag155 : isAgg Try.prog 155 = false := by kernel_rfl
theorem ag156 : isAgg Try.prog 156 = false := by kernel_rfl
theorem ag157 : isAgg Try.prog 157 = false := by kernel_rfl
theorem ag158 : isAgg Try.prog 158 = false := by kernel_rfl
theorem ag159 : isAgg Try.prog 159 = false := by kernel_rfl
theorem ag160 : isAgg Try.prog 160 = false := by kernel_rfl
theorem sz161 : szOf Try.prog 161 = 8 := by kernel_rfl
theorem ag161 : isAgg Try.prog 161 = true := by kernel_rfl
theorem ze161 : zero Try.prog 161 = some [V.int .i64 0, V.str ⟨#[]⟩, V.str ⟨#[]⟩, V.int .i64 0, V.str ⟨#[]⟩, V.slc true 3 [], V.slc true 1 [], V.int .i64 0] := by kernel_rfl
theorem fa161_0 (v : V) : vFieldAddr Try.prog 161 0 v = faddr 0 v := by kernel_rfl
theorem fg161_0 (s : St) (v : V) : vField Try.prog s 161 0 v = fget 0 1 false v := by kernel_rfl
theorem fa161_1 (v : V) : vFieldAddr Try.prog 161 1 v = faddr 1 v := by kernel_rfl
theorem fg161_1 (s : St) (v : V) : vField Try.prog s 161 1 v = fget 1 1 false v := by kernel_rfl
theorem fa161_2 (v : V) : vFieldAddr Try.prog 161 2 v = faddr 2 v := by kernel_rfl
theorem fg161_2 (s : St) (v : V) : vField Try.prog s 161 2 v = fget 2 1 false v := by kernel_rfl
theorem fa161_3 (v : V) : vFieldAddr Try.prog 161 3 v = faddr 3 v := by kernel_rfl
theorem fg161_3 (s : St) (v : V) : vField Try.prog s 161 3 v = fget 3 3 true v := by kernel_rfl
theorem fa161_4 (v : V) : vFieldAddr Try.prog 161 4 v = faddr 6 v := by kernel_rfl
theorem fg161_4 (s : St) (v : V) : vField Try.prog s 161 4 v = fget 6 1 false v := by kernel_rfl
theorem fa161_5 (v : V) : vFieldAddr Try.prog 161 5 v = faddr 7 v := by kernel_rfl
theorem fg161_5 (s : St) (v : V) : vField Try.prog s 161 5 v = fget 7 1 false v := by kernel_rfl
theorem sz162 : szOf Try.prog 162 = 8 := by kernel_rfl
theorem ag162 : isAgg Try.prog 162 = true := by kernel_rfl
theorem ze162 : zero Try.prog 162 = some [V.int .i64 0, V.str ⟨#[]⟩, V.str ⟨#[]⟩, V.int .i64 0, V.str ⟨#[]⟩, V.slc true 3 [], V.slc true 1 [], V.int .i64 0] := by kernel_rfl
theorem fa162_0 (v : V) : vFieldAddr Try.prog 162 0 v = faddr 0 v := by kernel_rfl
theorem fg162_0 (s : St) (v : V) : vField Try.prog s 162 0 v = fget 0 1 false v := by kernel_rfl
theorem fa162_1 (v : V) : vFieldAddr Try.prog 162 1 v = faddr 1 v := by kernel_rfl
theorem fg162_1 (s : St) (v : V) : vField Try.prog s 162 1 v = fget 1 1 false v := by kernel_rfl
theorem fa162_2 (v : V) : vFieldAddr Try.prog 162 2 v = faddr 2 v := by kernel_rfl
theorem fg162_2 (s : St) (v : V) : vField Try.prog s 162 2 v = fget 2 1 false v := by kernel_rfl
theorem fa162_3 (v : V) : vFieldAddr Try.prog 162 3 v = faddr 3 v := by kernel_rfl
theorem fg162_3 (s : St) (v : V) : vField Try.prog s 162 3 v = fget 3 3 true v := by kernel_rfl
theorem fa162_4 (v : V) : vFieldAddr Try.prog 162 4 v = faddr 6 v := by kernel_rfl
theorem fg162_4 (s : St) (v : V) : vField Try.prog s 162 4 v = fget 6 1 false v := by kernel_rfl
theorem fa162_5 (v : V) : vFieldAddr Try.prog 162 5 v = faddr 7 v := by kernel_rfl
theorem fg162_5 (s : St) (v : V) : vField Try.prog s 162 5 v = fget 7 1 false v := by kernel_rfl
theorem ag163 : isAgg Try.prog 163 = false := by kernel_rfl
theorem ag164 : isAgg Try.prog 164 = false := by kernel_rfl
theorem ag165 : isAgg Try.prog 165 = false := by kernel_rfl
theorem ag166 : isAgg Try.prog 166 = false := by kernel_rfl
theorem ag167 : isAgg Try.prog 167 = false := by kernel_rfl
theorem ag168 : isAgg Try.prog 168 = false := by kernel_rfl
theorem ag169 : isAgg Try.prog 169 = false := by kernel_rfl
theorem ag170 : isAgg Try.prog 170 = false := by kernel_rfl
theorem ag171 : isAgg Try.prog 171 = false := by kernel_rfl
theorem ag172 : isAgg Try.prog 172 = false := by kernel_rfl
theorem u173 : Try.prog.underlying 173 = some (.slice 175) := by kernel_rfl
theorem sz173 : szOf Try.prog 173 = 1 := by kernel_rfl
theorem ag173 : isAgg Try.prog 173 = false := by kernel_rfl
theorem eo173 : elemOf Try.prog 173 = 175 := by kernel_rfl
theorem es173 : elemSz Try.prog 173 = 3 := by kernel_rfl
theorem gr173 : growB Try.prog 173 = true := by kernel_rfl
theorem df173 : dflt Try.prog 173 = V.agg [V.int .i64 0, V.str ⟨#[]⟩, V.slc false 3 []] := by kernel_rfl
theorem ze173 : zero Try.prog 173 = some [V.slc true 3 []] := by kernel_rfl
theorem sz174 : szOf Try.prog 174 = 3 := by kernel_rfl
theorem ag174 : isAgg Try.prog 174 = true := by kernel_rfl
theorem ze174 : zero Try.prog 174 = some [V.int .i64 0, V.str ⟨#[]⟩, V.slc true 3 []] := by kernel_rfl
theorem fa174_0 (v : V) : vFieldAddr Try.prog 174 0 v = faddr 0 v := by kernel_rfl
theorem fg174_0 (s : St) (v : V) : vField Try.prog s 174 0 v = fget 0 1 false v := by kernel_rfl
theorem fa174_1 (v : V) : vFieldAddr Try.prog 174 1 v = faddr 1 v := by kernel_rfl
theorem fg174_1 (s : St) (v : V) : vField Try.prog s 174 1 v = fget 1 1 false v := by kernel_rfl
theorem fa174_2 (v : V) : vFieldAddr Try.prog 174 2 v = faddr 2 v := by kernel_rfl
theorem fg174_2 (s : St) (v : V) : vField Try.prog s 174 2 v = fget 2 1 false v := by kernel_rfl
theorem sz175 : szOf Try.prog 175 = 3 := by kernel_rfl
theorem ag175 : isAgg Try.prog 175 = true := by kernel_rfl
theorem ze175 : zero Try.prog 175 = some [V.int .i64 0, V.str ⟨#[]⟩, V.slc true 3 []] := by kernel_rfl
theorem fa175_0 (v : V) : vFieldAddr Try.prog 175 0 v = faddr 0 v := by kernel_rfl
theorem fg175_0 (s : St) (v : V) : vField Try.prog s 175 0 v = fget 0 1 false v := by kernel_rfl
theorem fa175_1 (v : V) : vFieldAddr Try.prog 175 1 v = faddr 1 v := by kernel_rfl
theorem fg175_1 (s : St) (v : V) : vField Try.prog s 175 1 v = fget 1 1 false v := by kernel_rfl
theorem fa175_2 (v : V) : vFieldAddr Try.prog 175 2 v = faddr 2 v := by kernel_rfl
theorem fg175_2 (s : St) (v : V) : vField Try.prog s 175 2 v = fget 2 1 false v := by kernel_rfl
theorem sz176 : szOf Try.prog 176 = 8 := by kernel_rfl
theorem ag176 : isAgg Try.prog 176 = true := by kernel_rfl
theorem ze176 : zero Try.prog 176 = some [V.int .i64 0, V.str ⟨#[]⟩, V.str ⟨#[]⟩, V.int .i64 0, V.str ⟨#[]⟩, V.slc true 3 [], V.slc true 1 [], V.int .i64 0] := by kernel_rfl
theorem fa176_0 (v : V) : vFieldAddr Try.prog 176 0 v = faddr 0 v := by kernel_rfl
theorem fg176_0 (s : St) (v : V) : vField Try.prog s 176 0 v = fget 0 1 false v := by kernel_rfl
theorem fa176_1 (v : V) : vFieldAddr Try.prog 176 1 v = faddr 1 v := by kernel_rfl
theorem fg176_1 (s : St) (v : V) : vField Try.prog s 176 1 v = fget 1 1 false v := by kernel_rfl
theorem fa176_2 (v : V) : vFieldAddr Try.prog 176 2 v = faddr 2 v := by kernel_rfl
theorem fg176_2 (s : St) (v : V) : vField Try.prog s 176 2 v = fget 2 1 false v := by kernel_rfl
theorem fa176_3 (v : V) : vFieldAddr Try.prog 176 3 v = faddr 3 v := by kernel_rfl
theorem fg176_3 (s : St) (v : V) : vField Try.prog s 176 3 v = fget 3 3 true v := by kernel_rfl
theorem fa176_4 (v : V) : vFieldAddr Try.prog 176 4 v = faddr 6 v := by kernel_rfl
theorem fg176_4 (s : St) (v : V) : vField Try.prog s 176 4 v = fget 6 1 false v := by kernel_rfl
theorem fa176_5 (v : V) : vFieldAddr Try.prog 176 5 v = faddr 7 v := by kernel_rfl
theorem fg176_5 (s : St) (v : V) : vField Try.prog s 176 5 v = fget 7 1 false v := by kernel_rfl
theorem sz177 : szOf Try.prog 177 = 8 := by kernel_rfl
theorem ag177 : isAgg Try.prog 177 = true := by kernel_rfl
theorem ze177 : zero Try.prog 177 = some [V.int .i64 0, V.str ⟨#[]⟩, V.str ⟨#[]⟩, V.int .i64 0, V.str ⟨#[]⟩, V.slc true 3 [], V.slc true 1 [], V.int .i64 0] := by kernel_rfl
theorem fa177_0 (v : V) : vFieldAddr Try.prog 177 0 v = faddr 0 v := by kernel_rfl
theorem fg177_0 (s : St) (v : V) : vField Try.prog s 177 0 v = fget 0 1 false v := by kernel_rfl
theorem fa177_1 (v : V) : vFieldAddr Try.prog 177 1 v = faddr 1 v := by kernel_rfl
theorem fg177_1 (s : St) (v : V) : vField Try.prog s 177 1 v = fget 1 1 false v := by kernel_rfl
theorem fa177_2 (v : V) : vFieldAddr Try.prog 177 2 v = faddr 2 v := by kernel_rfl
theorem fg177_2 (s : St) (v : V) : vField Try.prog s 177 2 v = fget 2 1 false v := by kernel_rfl
theorem fa177_3 (v : V) : vFieldAddr Try.prog 177 3 v = faddr 3 v := by kernel_rfl
theorem fg177_3 (s : St) (v : V) : vField Try.prog s 177 3 v = fget 3 3 true v := by kernel_rfl
theorem fa177_4 (v : V) : vFieldAddr Try.prog 177 4 v = faddr 6 v := by kernel_rfl
theorem fg177_4 (s : St) (v : V) : vField Try.prog s 177 4 v = fget 6 1 false v := by kernel_rfl
theorem fa177_5 (v : V) : vFieldAddr Try.prog 177 5 v = faddr 7 v := by kernel_rfl
theorem fg177_5 (s : St) (v : V) : vField Try.prog s 177 5 v = fget 7 1 false v := by kernel_rfl
theorem ag178 : isAgg Try.prog 178 = false := by kernel_rfl
theorem sz179 : szOf Try.prog 179 = 8 := by kernel_rfl
theorem ag179 : isAgg Try.prog 179 = true := by kernel_rfl
theorem ze179 : zero Try.prog 179 = some [V.int .i64 0, V.str ⟨#[]⟩, V.str ⟨#[]⟩, V.str ⟨#[]⟩, V.str ⟨#[]⟩, V.int .i64 0, V.str ⟨#[]⟩, V.slc true 3 []] := by kernel_rfl
theorem fa179_0 (v : V) : vFieldAddr Try.prog 179 0 v = faddr 0 v := by kernel_rfl
theorem fg179_0 (s : St) (v : V) : vField Try.prog s 179 0 v = fget 0 1 false v := by kernel_rfl
theorem fa179_1 (v : V) : vFieldAddr Try.prog 179 1 v = faddr 1 v := by kernel_rfl
theorem fg179_1 (s : St) (v : V) : vField Try.prog s 179 1 v = fget 1 1 false v := by kernel_rfl
theorem fa179_2 (v : V) : vFieldAddr Try.prog 179 2 v = faddr 2 v := by kernel_rfl
theorem fg179_2 (s : St) (v : V) : vField Try.prog s 179 2 v = fget 2 3 true v := by kernel_rfl
theorem fa179_3 (v : V) : vFieldAddr Try.prog 179 3 v = faddr 5 v := by kernel_rfl
theorem fg179_3 (s : St) (v : V) : vField Try.prog s 179 3 v = fget 5 3 true v := by kernel_rfl
theorem sz180 : szOf Try.prog 180 = 8 := by kernel_rfl
theorem ag180 : isAgg Try.prog 180 = true := by kernel_rfl
theorem ze180 : zero Try.prog 180 = some [V.int .i64 0, V.str ⟨#[]⟩, V.str ⟨#[]⟩, V.str ⟨#[]⟩, V.str ⟨#[]⟩, V.int .i64 0, V.str ⟨#[]⟩, V.slc true 3 []] := by kernel_rfl
theorem fa180_0 (v : V) : vFieldAddr Try.prog 180 0 v = faddr 0 v := by kernel_rfl
theorem fg180_0 (s : St) (v : V) : vField Try.prog s 180 0 v = fget 0 1 false v := by kernel_rfl
theorem fa180_1 (v : V) : vFieldAddr Try.prog 180 1 v = faddr 1 v := by kernel_rfl
theorem fg180_1 (s : St) (v : V) : vField Try.prog s 180 1 v = fget 1 1 false v := by kernel_rfl
theorem fa180_2 (v : V) : vFieldAddr Try.prog 180 2 v = faddr 2 v := by kernel_rfl
theorem fg180_2 (s : St) (v : V) : vField Try.prog s 180 2 v = fget 2 3 true v := by kernel_rfl
theorem fa180_3 (v : V) : vFieldAddr Try.prog 180 3 v = faddr 5 v := by kernel_rfl
theorem fg180_3 (s : St) (v : V) : vField Try.prog s 180 3 v = fget 5 3 true v := by kernel_rfl
theorem ag181 : isAgg Try.prog 181 = false := by kernel_rfl
theorem ag182 : isAgg Try.prog 182 = false := by kernel_rfl
theorem ag183 : isAgg Try.prog 183 = false := by kernel_rfl
theorem ag184 : isAgg Try.prog 184 = false := by kernel_rfl
theorem ag185 : isAgg Try.prog 185 = false := by kernel_rfl
theorem ag186 : isAgg Try.prog 186 = false := by kernel_rfl
theorem ag187 : isAgg Try.prog 187 = false := by kernel_rfl
theorem ag188 : isAgg Try.prog 188 = false := by kernel_rfl
theorem ag189 : isAgg Try.prog 189 = false := by kernel_rfl
theorem sz190 : szOf Try.prog 190 = 4 := by kernel_rfl
theorem ag190 : isAgg Try.prog 190 = true := by kernel_rfl
theorem ze190 : zero Try.prog 190 = some [V.nilp, V.nilp, V.nilp, V.str ⟨#[]⟩] := by kernel_rfl
theorem fa190_0 (v : V) : vFieldAddr Try.prog 190 0 v = faddr 0 v := by kernel_rfl
theorem fg190_0 (s : St) (v : V) : vField Try.prog s 190 0 v = fget 0 1 false v := by kernel_rfl
theorem fa190_1 (v : V) : vFieldAddr Try.prog 190 1 v = faddr 1 v := by kernel_rfl
theorem fg190_1 (s : St) (v : V) : vField Try.prog s 190 1 v = fget 1 1 false v := by kernel_rfl
theorem fa190_2 (v : V) : vFieldAddr Try.prog 190 2 v = faddr 2 v := by kernel_rfl
theorem fg190_2 (s : St) (v : V) : vField Try.prog s 190 2 v = fget 2 1 false v := by kernel_rfl
theorem fa190_3 (v : V) : vFieldAddr Try.prog 190 3 v = faddr 3 v := by kernel_rfl
theorem fg190_3 (s : St) (v : V) : vField Try.prog s 190 3 v = fget 3 1 false v := by kernel_rfl
theorem sz191 : szOf Try.prog 191 = 4 := by kernel_rfl
theorem ag191 : isAgg Try.prog 191 = true := by kernel_rfl
theorem ze191 : zero Try.prog 191 = some [V.nilp, V.nilp, V.nilp, V.str ⟨#[]⟩] := by kernel_rfl
theorem fa191_0 (v : V) : vFieldAddr Try.prog 191 0 v = faddr 0 v := by kernel_rfl
theorem fg191_0 (s : St) (v : V) : vField Try.prog s 191 0 v = fget 0 1 false v := by kernel_rfl
theorem fa191_1 (v : V) : vFieldAddr Try.prog 191 1 v = faddr 1 v := by kernel_rfl
theorem fg191_1 (s : St) (v : V) : vField Try.prog s 191 1 v = fget 1 1 false v := by kernel_rfl
theorem fa191_2 (v : V) : vFieldAddr Try.prog 191 2 v = faddr 2 v := by kernel_rfl
theorem fg191_2 (s : St) (v : V) : vField Try.prog s 191 2 v = fget 2 1 false v := by kernel_rfl
theorem fa191_3 (v : V) : vFieldAddr Try.prog 191 3 v = faddr 3 v := by kernel_rfl
theorem fg191_3 (s : St) (v : V) : vField Try.prog s 191 3 v = fget 3 1 false v := by kernel_rfl
theorem u192 : Try.prog.underlying 192 = some (.array 0 16) := by kernel_rfl
theorem sz192 : szOf Try.prog 192 = 0 := by kernel_rfl
theorem ag192 : isAgg Try.prog 192 = true := by kernel_rfl
theorem eo192 : elemOf Try.prog 192 = 16 := by kernel_rfl
theorem es192 : elemSz Try.prog 192 = 1 := by kernel_rfl
theorem ze192 : zero Try.prog 192 = some [] := by kernel_rfl
theorem sz193 : szOf Try.prog 193 = 0 := by kernel_rfl
theorem ag193 : isAgg Try.prog 193 = true := by kernel_rfl
theorem ze193 : zero Try.prog 193 = some [] := by kernel_rfl
theorem sz194 : szOf Try.prog 194 = 0 := by kernel_rfl
theorem ag194 : isAgg Try.prog 194 = true := by kernel_rfl
theorem ze194 : zero Try.prog 194 = some [] := by kernel_rfl
theorem ag195 : isAgg Try.prog 195 = false := by kernel_rfl
theorem u196 : Try.prog.underlying 196 = some (.int .u32) := by kernel_rfl
theorem sz196 : szOf Try.prog 196 = 1 := by kernel_rfl
theorem ag196 : isAgg Try.prog 196 = false := by kernel_rfl
theorem ze196 : zero Try.prog 196 = some [V.int .u32 0] := by kernel_rfl
theorem u197 : Try.prog.underlying 197 = some (.int .u8) := by kernel_rfl
theorem sz197 : szOf Try.prog 197 = 1 := by kernel_rfl
theorem ag197 : isAgg Try.prog 197 = false := by kernel_rfl
theorem ze197 : zero Try.prog 197 = some [V.int .u8 0] := by kernel_rfl
theorem u198 : Try.prog.underlying 198 = some (.int .u8) := by kernel_rfl
theorem sz198 : szOf Try.prog 198 = 1 := by kernel_rfl
theorem ag198 : isAgg Try.prog 198 = false := by kernel_rfl
theorem ze198 : zero Try.prog 198 = some [V.int .u8 0] := by kernel_rfl
theorem ag199 : isAgg Try.prog 199 = false := by kernel_rfl
theorem u200 : Try.prog.underlying 200 = some (.pointer 5) := by kernel_rfl
theorem sz200 : szOf Try.prog 200 = 1 := by kernel_rfl
theorem ag200 : isAgg Try.prog 200 = false := by kernel_rfl
theorem ze200 : zero Try.prog 200 = some [V.nilp] := by kernel_rfl
theorem u201 : Try.prog.underlying 201 = some (.int .i32) := by kernel_rfl
theorem sz201 : szOf Try.prog 201 = 1 := by kernel_rfl
theorem ag201 : isAgg Try.prog 201 = false := by kernel_rfl
theorem ze201 : zero Try.prog 201 = some [V.int .i32 0] := by kernel_rfl
theorem u202 : Try.prog.underlying 202 = some (.int .i32) := by kernel_rfl
theorem sz202 : szOf Try.prog 202 = 1 := by kernel_rfl
theorem ag202 : isAgg Try.prog 202 = false := by kernel_rfl
theorem ze202 : zero Try.prog 202 = some [V.int .i32 0] := by kernel_rfl
theorem sz203 : szOf Try.prog 203 = 11 := by kernel_rfl
theorem ag203 : isAgg Try.prog 203 = true := by kernel_rfl
theorem ze203 : zero Try.prog 203 = some [V.int .u64 0, V.int .u64 0, V.int .u32 0, V.int .u8 0, V.int .u8 0, V.int .u8 0, V.int .u8 0, V.nilfn, V.nilp, V.int .i32 0, V.int .i32 0] := by kernel_rfl
theorem fa203_0 (v : V) : vFieldAddr Try.prog 203 0 v = faddr 0 v := by kernel_rfl
theorem fg203_0 (s : St) (v : V) : vField Try.prog s 203 0 v = fget 0 1 false v := by kernel_rfl
theorem fa203_1 (v : V) : vFieldAddr Try.prog 203 1 v = faddr 1 v := by kernel_rfl
theorem fg203_1 (s : St) (v : V) : vField Try.prog s 203 1 v = fget 1 1 false v := by kernel_rfl
theorem fa203_2 (v : V) : vFieldAddr Try.prog 203 2 v = faddr 2 v := by kernel_rfl
theorem fg203_2 (s : St) (v : V) : vField Try.prog s 203 2 v = fget 2 1 false v := by kernel_rfl
theorem fa203_3 (v : V) : vFieldAddr Try.prog 203 3 v = faddr 3 v := by kernel_rfl
theorem fg203_3 (s : St) (v : V) : vField Try.prog s 203 3 v = fget 3 1 false v := by kernel_rfl
theorem fa203_4 (v : V) : vFieldAddr Try.prog 203 4 v = faddr 4 v := by kernel_rfl
theorem fg203_4 (s : St) (v : V) : vField Try.prog s 203 4 v = fget 4 1 false v := by kernel_rfl
theorem fa203_5 (v : V) : vFieldAddr Try.prog 203 5 v = faddr 5 v := by kernel_rfl
theorem fg203_5 (s : St) (v : V) : vField Try.prog s 203 5 v = fget 5 1 false v := by kernel_rfl
theorem fa203_6 (v : V) : vFieldAddr Try.prog 203 6 v = faddr 6 v := by kernel_rfl
theorem fg203_6 (s : St) (v : V) : vField Try.prog s 203 6 v = fget 6 1 false v := by kernel_rfl
theorem fa203_7 (v : V) : vFieldAddr Try.prog 203 7 v = faddr 7 v := by kernel_rfl
theorem fg203_7 (s : St) (v : V) : vField Try.prog s 203 7 v = fget 7 1 false v := by kernel_rfl
theorem fa203_8 (v : V) : vFieldAddr Try.prog 203 8 v = faddr 8 v := by kernel_rfl
theorem fg203_8 (s : St) (v : V) : vField Try.prog s 203 8 v = fget 8 1 false v := by kernel_rfl
theorem fa203_9 (v : V) : vFieldAddr Try.prog 203 9 v = faddr 9 v := by kernel_rfl
theorem fg203_9 (s : St) (v : V) : vField Try.prog s 203 9 v = fget 9 1 false v := by kernel_rfl
theorem fa203_10 (v : V) : vFieldAddr Try.prog 203 10 v = faddr 10 v := by kernel_rfl
theorem fg203_10 (s : St) (v : V) : vField Try.prog s 203 10 v = fget 10 1 false v := by kernel_rfl
theorem sz204 : szOf Try.prog 204 = 11 := by kernel_rfl
theorem ag204 : isAgg Try.prog 204 = true := by kernel_rfl
theorem ze204 : zero Try.prog 204 = some [V.int .u64 0, V.int .u64 0, V.int .u32 0, V.int .u8 0, V.int .u8 0, V.int .u8 0, V.int .u8 0, V.nilfn, V.nilp, V.int .i32 0, V.int .i32 0] := by kernel_rfl
theorem fa204_0 (v : V) : vFieldAddr Try.prog 204 0 v = faddr 0 v := by kernel_rfl
theorem fg204_0 (s : St) (v : V) : vField Try.prog s 204 0 v = fget 0 1 false v := by kernel_rfl
theorem fa204_1 (v : V) : vFieldAddr Try.prog 204 1 v = faddr 1 v := by kernel_rfl
theorem fg204_1 (s : St) (v : V) : vField Try.prog s 204 1 v = fget 1 1 false v := by kernel_rfl
theorem fa204_2 (v : V) : vFieldAddr Try.prog 204 2 v = faddr 2 v := by kernel_rfl
theorem fg204_2 (s : St) (v : V) : vField Try.prog s 204 2 v = fget 2 1 false v := by kernel_rfl
theorem fa204_3 (v : V) : vFieldAddr Try.prog 204 3 v = faddr 3 v := by kernel_rfl
theorem fg204_3 (s : St) (v : V) : vField Try.prog s 204 3 v = fget 3 1 false v := by kernel_rfl
theorem fa204_4 (v : V) : vFieldAddr Try.prog 204 4 v = faddr 4 v := by kernel_rfl
theorem fg204_4 (s : St) (v : V) : vField Try.prog s 204 4 v = fget 4 1 false v := by kernel_rfl
theorem fa204_5 (v : V) : vFieldAddr Try.prog 204 5 v = faddr 5 v := by kernel_rfl
theorem fg204_5 (s : St) (v : V) : vField Try.prog s 204 5 v = fget 5 1 false v := by kernel_rfl
theorem fa204_6 (v : V) : vFieldAddr Try.prog 204 6 v = faddr 6 v := by kernel_rfl
theorem fg204_6 (s : St) (v : V) : vField Try.prog s 204 6 v = fget 6 1 false v := by kernel_rfl
theorem fa204_7 (v : V) : vFieldAddr Try.prog 204 7 v = faddr 7 v := by kernel_rfl
theorem fg204_7 (s : St) (v : V) : vField Try.prog s 204 7 v = fget 7 1 false v := by kernel_rfl
theorem fa204_8 (v : V) : vFieldAddr Try.prog 204 8 v = faddr 8 v := by kernel_rfl
theorem fg204_8 (s : St) (v : V) : vField Try.prog s 204 8 v = fget 8 1 false v := by kernel_rfl
theorem fa204_9 (v : V) : vFieldAddr Try.prog 204 9 v = faddr 9 v := by kernel_rfl
theorem fg204_9 (s : St) (v : V) : vField Try.prog s 204 9 v = fget 9 1 false v := by kernel_rfl
theorem fa204_10 (v : V) : vFieldAddr Try.prog 204 10 v = faddr 10 v := by kernel_rfl
theorem fg204_10 (s : St) (v : V) : vField Try.prog s 204 10 v = fget 10 1 false v := by kernel_rfl
theorem by3 : (Try.prog.bytesOf 3) = 8 := by kernel_rfl
theorem by5 : (Try.prog.bytesOf 5) = 1 := by kernel_rfl
theorem by9 : (Try.prog.bytesOf 9) = 16 := by kernel_rfl
theorem by38 : (Try.prog.bytesOf 38) = 24 := by kernel_rfl
theorem by40 : (Try.prog.bytesOf 40) = 56 := by kernel_rfl
theorem by46 : (Try.prog.bytesOf 46) = 56 := by kernel_rfl
theorem by144 : (Try.prog.bytesOf 144) = 48 := by kernel_rfl
theorem by146 : (Try.prog.bytesOf 146) = 120 := by kernel_rfl
theorem by162 : (Try.prog.bytesOf 162) = 120 := by kernel_rfl
theorem by175 : (Try.prog.bytesOf 175) = 48 := by kernel_rfl
theorem by177 : (Try.prog.bytesOf 177) = 120 := by kernel_rfl
theorem by180 : (Try.prog.bytesOf 180) = 120 := by kernel_rfl
attribute [go_sem] ag1 u2 sz2 ag2 ze2 u3 sz3 ag3 ze3 u4 sz4 ag4 ze4 ev4 u5 sz5 ag5 ze5 u6 sz6 ag6 ze6 sz7 ag7 ze7 fa7_0 fg7_0 fa7_1 fg7_1 fa7_2 fg7_2 fa7_3 fg7_3 sz8 ag8 ze8 fa8_0 fg8_0 fa8_1 fg8_1 fa8_2 fg8_2 fa8_3 fg8_3 u9 sz9 ag9 ze9 u10 sz10 ag10 ze10 u11 sz11 ag11 ze11 u12 sz12 ag12 ze12 sz13 ag13 ze13 fa13_0 fg13_0 fa13_1 fg13_1 sz14 ag14 ze14 fa14_0 fg14_0 fa14_1 fg14_1 u15 sz15 ag15 ze15 u16 sz16 ag16 ze16 u17 sz17 ag17 ze17 sz18 ag18 ze18 fa18_0 fg18_0 sz19 ag19 ze19 fa19_0 fg19_0 u21 sz21 ag21 ze21 ag22 ag23 sz24 ag24 ze24 fa24_0 fg24_0 fa24_1 fg24_1 fa24_2 fg24_2 sz25 ag25 ze25 fa25_0 fg25_0 fa25_1 fg25_1 fa25_2 fg25_2 ev25 eg25 ag26 ag27 sz28 ag28 ze28 fa28_0 fg28_0 fa28_1 fg28_1 fa28_2 fg28_2 ev28 eg28 ag29 ag30 ag31 ag32 ag34 ag35 ag36 u37 sz37 ag37 eo37 es37 gr37 df37 ze37 u38 sz38 ag38 eo38 es38 gr38 df38 ze38 sz39 ag39 ze39 fa39_0 fg39_0 fa39_1 fg39_1 fa39_2 fg39_2 sz40 ag40 ze40 fa40_0 fg40_0 fa40_1 fg40_1 fa40_2 fg40_2 ag41 ag42 ag43 u44 sz44 ag44 eo44 es44 gr44 df44 ze44 ag45 sz46 ag46 ze46 fa46_0 fg46_0 fa46_1 fg46_1 fa46_2 fg46_2 ag47 ag48 ag49 ag50 sz51 ag51 ze51 fa51_0 fg51_0 fa51_1 fg51_1 fa51_2 fg51_2 sz52 ag52 ze52 fa52_0 fg52_0 fa52_1 fg52_1 fa52_2 fg52_2 ev52 eg52 sz53 ag53 ze53 fa53_0 fg53_0 fa53_1 fg53_1 fa53_2 fg53_2 sz54 ag54 ze54 fa54_0 fg54_0 fa54_1 fg54_1 fa54_2 fg54_2 ag55 ag56 sz57 ag57 ze57 fa57_0 fg57_0 fa57_1 fg57_1 fa57_2 fg57_2 ev57 eg57 sz58 ag58 ze58 fa58_0 fg58_0 fa58_1 fg58_1 fa58_2 fg58_2 sz59 ag59 ze59 fa59_0 fg59_0 fa59_1 fg59_1 fa59_2 fg59_2 ag60 ag61 sz62 ag62 ze62 fa62_0 fg62_0 fa62_1 fg62_1 sz63 ag63 ze63 fa63_0 fg63_0 fa63_1 fg63_1 ev63 eg63 u64 sz64 ag64 eo64 es64 gr64 df64 ze64 sz65 ag65 ze65 fa65_0 fg65_0 fa65_1 fg65_1 fa65_2 fg65_2 sz66 ag66 ze66 fa66_0 fg66_0 fa66_1 fg66_1 fa66_2 fg66_2 sz67 ag67 ze67 fa67_0 fg67_0 fa67_1 fg67_1 fa67_2 fg67_2 sz68 ag68 ze68 fa68_0 fg68_0 fa68_1 fg68_1 fa68_2 fg68_2 ag69 ag70 ag71 sz72 ag72 ze72 fa72_0 fg72_0 fa72_1 fg72_1 ev72 eg72 sz73 ag73 ze73 fa73_0 fg73_0 fa73_1 fg73_1 fa73_2 fg73_2 sz74 ag74 ze74 fa74_0 fg74_0 fa74_1 fg74_1 fa74_2 fg74_2 sz75 ag75 ze75 fa75_0 fg75_0 fa75_1 fg75_1 fa75_2 fg75_2 ag76 ag77 ag78 ag79 u80 sz80 ag80 eo80 es80 gr80 df80 ze80 sz81 ag81 ze81 fa81_0 fg81_0 sz82 ag82 ze82 fa82_0 fg82_0 sz83 ag83 ze83 fa83_0 fg83_0 fa83_1 fg83_1 fa83_2 fg83_2 fa83_3 fg83_3 sz84 ag84 ze84 fa84_0 fg84_0 fa84_1 fg84_1 fa84_2 fg84_2 fa84_3 fg84_3 u85 sz85 ag85 eo85 es85 gr85 df85 ze85 sz86 ag86 ze86 fa86_0 fg86_0 sz87 ag87 ze87 fa87_0 fg87_0 sz88 ag88 ze88 fa88_0 fg88_0 fa88_1 fg88_1 fa88_2 fg88_2 sz89 ag89 ze89 fa89_0 fg89_0 fa89_1 fg89_1 fa89_2 fg89_2 ag90 ag91 u92 sz92 ag92 eo92 es92 gr92 df92 ze92 sz93 ag93 ze93 fa93_0 fg93_0 sz94 ag94 ze94 fa94_0 fg94_0 sz95 ag95 ze95 fa95_0 fg95_0 fa95_1 fg95_1 fa95_2 fg95_2 fa95_3 fg95_3 sz96 ag96 ze96 fa96_0 fg96_0 fa96_1 fg96_1 fa96_2 fg96_2 fa96_3 fg96_3 u97 sz97 ag97 eo97 es97 gr97 df97 ze97 sz98 ag98 ze98 fa98_0 fg98_0 sz99 ag99 ze99 fa99_0 fg99_0 sz100 ag100 ze100 fa100_0 fg100_0 fa100_1 fg100_1 fa100_2 fg100_2 sz101 ag101 ze101 fa101_0 fg101_0 fa101_1 fg101_1 fa101_2 fg101_2 ag102 ag103 u104 sz104 ag104 eo104 es104 gr104 df104 ze104 ag105 ag106 ag107 ag108 ag109 ag110 ag111 ag112 ag113 ag114 ag115 ag116 ag117 ag118 ag119 ag120 ag121 ag123 ag124 ag125 ag126 ag127 ag128 ag129 ag130 ag131 ag132 ag133 ag134 ag135 ag136 ag137 ag138 ag139 ag140 ag141 u142 sz142 ag142 eo142 es142 gr142 df142 ze142 sz143 ag143 ze143 fa143_0 fg143_0 fa143_1 fg143_1 fa143_2 fg143_2 sz144 ag144 ze144 fa144_0 fg144_0 fa144_1 fg144_1 fa144_2 fg144_2 sz145 ag145 ze145 fa145_0 fg145_0 fa145_1 fg145_1 fa145_2 fg145_2 fa145_3 fg145_3 sz146 ag146 ze146 fa146_0 fg146_0 fa146_1 fg146_1 fa146_2 fg146_2 fa146_3 fg146_3 ag147 u148 sz148 ag148 eo148 es148 gr148 df148 ze148 ag150 ag151 ag152 ag153 ag154 ag155 ag156 ag157 ag158 ag159 ag160 sz161 ag161 ze161 fa161_0 fg161_0 fa161_1 fg161_1 fa161_2 fg161_2 fa161_3 fg161_3 fa161_4 fg161_4 fa161_5 fg161_5 sz162 ag162 ze162 fa162_0 fg162_0 fa162_1 fg162_1 fa162_2 fg162_2 fa162_3 fg162_3 fa162_4 fg162_4 fa162_5 fg162_5 ag163 ag164 ag165 ag166 ag167 ag168 ag169 ag170 ag171 ag172 u173 sz173 ag173 eo173 es173 gr173 df173 ze173 sz174 ag174 ze174 fa174_0 fg174_0 fa174_1 fg174_1 fa174_2 fg174_2 sz175 ag175 ze175 fa175_0 fg175_0 fa175_1 fg175_1 fa175_2 fg175_2 sz176 ag176 ze176 fa176_0 fg176_0 fa176_1 fg176_1 fa176_2 fg176_2 fa176_3 fg176_3 fa176_4 fg176_4 fa176_5 fg176_5 sz177 ag177 ze177 fa177_0 fg177_0 fa177_1 fg177_1 fa177_2 fg177_2 fa177_3 fg177_3 fa177_4 fg177_4 fa177_5 fg177_5 ag178 sz179 ag179 ze179 fa179_0 fg179_0 fa179_1 fg179_1 fa179_2 fg179_2 fa179_3 fg179_3 sz180 ag180 ze180 fa180_0 fg180_0 fa180_1 fg180_1 fa180_2 fg180_2 fa180_3 fg180_3 ag181 ag182 ag183 ag184 ag185 ag186 ag187 ag188 ag189 sz190 ag190 ze190 fa190_0 fg190_0 fa190_1 fg190_1 fa190_2 fg190_2 fa190_3 fg190_3 sz191 ag191 ze191 fa191_0 fg191_0 fa191_1 fg191_1 fa191_2 fg191_2 fa191_3 fg191_3 u192 sz192 ag192 eo192 es192 ze192 sz193 ag193 ze193 sz194 ag194 ze194 ag195 u196 sz196 ag196 ze196 u197 sz197 ag197 ze197 u198 sz198 ag198 ze198 ag199 u200 sz200 ag200 ze200 u201 sz201 ag201 ze201 u202 sz202 ag202 ze202 sz203 ag203 ze203 fa203_0 fg203_0 fa203_1 fg203_1 fa203_2 fg203_2 fa203_3 fg203_3 fa203_4 fg203_4 fa203_5 fg203_5 fa203_6 fg203_6 fa203_7 fg203_7 fa203_8 fg203_8 fa203_9 fg203_9 fa203_10 fg203_10 sz204 ag204 ze204 fa204_0 fg204_0 fa204_1 fg204_1 fa204_2 fg204_2 fa204_3 fg204_3 fa204_4 fg204_4 fa204_5 fg204_5 fa204_6 fg204_6 fa204_7 fg204_7 fa204_8 fg204_8 fa204_9 fg204_9 fa204_10 fg204_10 by3 by5 by9 by38 by40 by46 by144 by146 by162 by175 by177 by180
end Go.Ev
