/- What the evaluator is told of the functions, printed by a program. Leaves: letters, ranges. Leaves: letters, variables, sides. Strings: scans, the common beginning, replacements. Equations: clashes and moves. Moves. Draws: a byte, a number below another, one of some words. Draws: one of some words, a term. Draws: an equation. -/
import Derived.Test.YtkffkacjmhmegaaEvP
import Derived.Test.YtkffkacjmhmegaaEvN
import Derived.Test.YtkffkacjmhmegaaEvO
set_option linter.unusedVariables false
set_option linter.unusedSimpArgs false
namespace Go.Ev
open Go Go.Proofs
def hints : List (Nat × Hint) := [(3, ⟨[66], [], [⟨0, [3, 5, 6, 7], [3, 4, 6]⟩, ⟨2, [3, 5, 6, 7, 8, 9, 10], [3, 4, 6]⟩], [], [(19, [0, 1, 2, 3, 4, 5, 6, 7, 8, 9, 10, 12, 13, 11, 14])], [], [], [], [], [], [], []⟩),
 (4, ⟨[2], [], [], [], [], [], [], [], [], [], [], []⟩),
 (5, ⟨[], [], [], [], [], [], [], [], [], [], [], [5]⟩),
 (6, ⟨[4], [], [], [], [], [25], [], [], [], [], [], [25]⟩),
 (7, ⟨[2], [], [], [], [], [], [], [], [], [], [], []⟩),
 (8, ⟨[], [], [⟨0, [1, 2], [1, 2]⟩], [], [], [], [], [], [], [], [], []⟩),
 (9, ⟨[], [], [⟨0, [1, 2, 3], [1, 2]⟩], [], [], [], [], [], [], [], [], []⟩),
 (10, ⟨[2, 5, 59, 74, 87], [], [⟨0, [5, 49, 50, 51], [1]⟩], [], [], [], [], [], [], [], [], []⟩),
 (11, ⟨[5], [], [], [], [], [], [], [], [], [], [], []⟩),
 (13, ⟨[4, 34], [], [⟨0, [0, 3, 5, 6], [3]⟩], [], [], [], [], [], [], [], [], []⟩),
 (15, ⟨[], [], [], [14], [], [], [], [], [], [], [], []⟩),
 (16, ⟨[2], [], [⟨0, [0, 3, 4], []⟩], [], [], [], [], [], [], [], [], []⟩),
 (17, ⟨[2], [], [⟨0, [1, 3], [1]⟩], [], [], [], [], [], [], [], [], []⟩),
 (18, ⟨[2, 3, 15, 19], [], [⟨0, [0, 3, 4], []⟩], [], [], [], [], [], [], [], [], []⟩),
 (19, ⟨[4, 8, 9], [], [], [], [], [], [], [], [], [], [], []⟩),
 (21, ⟨[10, 17, 21, 42, 40, 4], [], [⟨0, [1, 2, 4, 5, 8, 11], [5, 8]⟩], [], [], [], [], [], [], [], [], [41]⟩),
 (22, ⟨[2], [], [⟨0, [1, 3, 4], [1]⟩], [], [], [], [], [], [], [], [], []⟩),
 (23, ⟨[], [], [⟨0, [0, 3], []⟩], [], [], [], [], [], [], [], [], []⟩),
 (24, ⟨[2], [], [], [], [], [], [], [], [], [], [], []⟩),
 (25, ⟨[2], [], [], [], [], [], [], [], [], [], [], []⟩),
 (26, ⟨[4], [], [], [], [], [], [], [], [], [], [], []⟩),
 (27, ⟨[4], [], [], [], [], [], [], [], [], [], [], []⟩),
 (29, ⟨[6], [], [], [], [], [], [], [], [], [], [], []⟩),
 (30, ⟨[2], [], [], [], [], [], [], [], [], [], [], []⟩),
 (32, ⟨[4], [], [], [], [], [], [], [], [], [], [], []⟩),
 (33, ⟨[], [], [⟨0, [0, 2, 3, 4, 5], [2]⟩, ⟨2, [2, 3, 6, 7], [2]⟩], [], [], [], [], [], [], [], [], []⟩),
 (34, ⟨[4], [], [], [], [], [], [], [], [], [], [], []⟩),
 (35, ⟨[6, 44], [], [⟨0, [0, 2, 7, 8, 9], []⟩], [], [], [], [], [], [], [], [], []⟩),
 (36, ⟨[2], [], [], [], [], [], [], [], [], [], [], []⟩),
 (37, ⟨[2], [], [], [], [], [], [], [], [], [], [], []⟩),
 (38, ⟨[2, 5, 29, 42], [], [⟨0, [0, 3, 4], []⟩, ⟨2, [0, 3, 4, 5, 6], []⟩, ⟨4, [0, 3, 4, 5, 6, 7], []⟩], [], [], [], [], [], [], [], [], []⟩),
 (39, ⟨[], [], [⟨0, [2, 3, 5], [2, 3]⟩], [], [], [], [], [], [], [], [], []⟩),
 (40, ⟨[2], [], [⟨0, [1, 3, 4], [1]⟩], [], [], [], [], [], [], [], [], []⟩),
 (41, ⟨[2, 20], [], [⟨0, [0, 3, 4], []⟩], [], [], [], [], [], [], [], [], []⟩),
 (42, ⟨[4], [], [], [], [], [], [], [], [], [], [], []⟩),
 (43, ⟨[4, 5, 16, 25, 28], [], [⟨0, [0, 1, 5, 6], []⟩], [], [], [], [], [], [], [], [], []⟩),
 (44, ⟨[4, 5], [], [], [], [], [], [], [], [], [], [], []⟩),
 (45, ⟨[4, 20], [], [⟨0, [0, 1, 5, 6], []⟩], [], [], [], [], [], [], [], [], []⟩),
 (46, ⟨[6, 33], [], [⟨0, [0, 1, 2, 7, 8], []⟩], [], [], [], [], [], [], [], [], []⟩),
 (47, ⟨[2, 57], [], [], [], [], [], [], [], [], [], [], []⟩),
 (48, ⟨[4], [], [], [], [], [], [], [], [], [], [], []⟩),
 (49, ⟨[2, 12], [], [⟨0, [0, 3], []⟩], [], [], [], [], [], [], [], [], []⟩),
 (50, ⟨[2], [], [⟨0, [0, 3], []⟩], [], [], [], [], [], [], [], [], []⟩),
 (51, ⟨[2], [], [], [], [], [], [], [], [], [], [], []⟩),
 (52, ⟨[2], [], [], [], [], [], [], [], [], [], [], []⟩),
 (53, ⟨[2], [], [⟨0, [0, 3], []⟩], [], [], [], [], [], [], [], [], []⟩),
 (54, ⟨[6], [], [], [], [], [], [], [], [], [], [], []⟩),
 (55, ⟨[4], [], [], [], [], [], [], [], [], [], [], []⟩),
 (56, ⟨[4], [], [], [], [], [], [], [], [], [], [], []⟩),
 (57, ⟨[4, 26], [], [⟨0, [1, 2, 5], [2]⟩], [], [], [], [], [], [], [], [], []⟩),
 (58, ⟨[2], [], [⟨0, [1, 3, 4], [1]⟩], [], [], [], [], [], [], [], [], []⟩),
 (59, ⟨[2], [], [⟨0, [1, 3], [1]⟩], [], [], [], [], [], [], [], [], []⟩),
 (60, ⟨[4], [], [], [], [], [], [], [], [], [], [], []⟩),
 (61, ⟨[4], [], [], [], [], [], [], [], [], [], [], []⟩),
 (63, ⟨[4, 8, 9], [], [], [], [], [], [], [], [], [], [], []⟩),
 (64, ⟨[2], [], [⟨0, [0, 3], []⟩], [], [], [], [], [], [], [], [], []⟩),
 (66, ⟨[4, 5, 7, 17, 37, 50, 62, 72], [], [⟨0, [0, 3, 5, 6], [3]⟩, ⟨2, [0, 3, 5, 7, 8], [3]⟩], [], [], [], [], [], [], [], [], []⟩),
 (67, ⟨[8], [], [], [], [], [], [], [], [], [], [], []⟩),
 (68, ⟨[], [], [⟨0, [0, 1, 2, 6], []⟩, ⟨2, [0, 1, 2, 6, 7], []⟩], [], [], [], [], [], [], [], [], []⟩),
 (70, ⟨[8], [], [⟨1, [0, 2, 3, 9, 10], []⟩], [], [], [], [], [], [], [], [], []⟩)]
noncomputable def EE : Env := { P := Try.prog, H := fun f => ((hints.find? (·.1 == f)).map (·.2)).getD ⟨[], [], [], [], [], [], [], [], [], [], [], []⟩, orc := fun g vs => if g = 42 then idxO vs else none }
theorem EP : EE.P = Try.prog := rfl
theorem o42 (s : ByteArray) (c : Int) : EE.orc 42 [.str s, .int .u8 c] = some (.int .i64 (idxB s c)) := by kernel_rfl
theorem h3 : EE.H 3 = ⟨[66], [], [⟨0, [3, 5, 6, 7], [3, 4, 6]⟩, ⟨2, [3, 5, 6, 7, 8, 9, 10], [3, 4, 6]⟩], [], [(19, [0, 1, 2, 3, 4, 5, 6, 7, 8, 9, 10, 12, 13, 11, 14])], [], [], [], [], [], [], []⟩ := by kernel_rfl
theorem o3 (vs : List V) : EE.orc 3 vs = none := by kernel_rfl
theorem h4 : EE.H 4 = ⟨[2], [], [], [], [], [], [], [], [], [], [], []⟩ := by kernel_rfl
theorem o4 (vs : List V) : EE.orc 4 vs = none := by kernel_rfl
theorem h5 : EE.H 5 = ⟨[], [], [], [], [], [], [], [], [], [], [], [5]⟩ := by kernel_rfl
theorem o5 (vs : List V) : EE.orc 5 vs = none := by kernel_rfl
theorem h6 : EE.H 6 = ⟨[4], [], [], [], [], [25], [], [], [], [], [], [25]⟩ := by kernel_rfl
theorem o6 (vs : List V) : EE.orc 6 vs = none := by kernel_rfl
theorem h7 : EE.H 7 = ⟨[2], [], [], [], [], [], [], [], [], [], [], []⟩ := by kernel_rfl
theorem o7 (vs : List V) : EE.orc 7 vs = none := by kernel_rfl
theorem h8 : EE.H 8 = ⟨[], [], [⟨0, [1, 2], [1, 2]⟩], [], [], [], [], [], [], [], [], []⟩ := by kernel_rfl
theorem o8 (vs : List V) : EE.orc 8 vs = none := by kernel_rfl
theorem h9 : EE.H 9 = ⟨[], [], [⟨0, [1, 2, 3], [1, 2]⟩], [], [], [], [], [], [], [], [], []⟩ := by kernel_rfl
theorem o9 (vs : List V) : EE.orc 9 vs = none := by kernel_rfl
theorem h10 : EE.H 10 = ⟨[2, 5, 59, 74, 87], [], [⟨0, [5, 49, 50, 51], [1]⟩], [], [], [], [], [], [], [], [], []⟩ := by kernel_rfl
theorem o10 (vs : List V) : EE.orc 10 vs = none := by kernel_rfl
theorem h11 : EE.H 11 = ⟨[5], [], [], [], [], [], [], [], [], [], [], []⟩ := by kernel_rfl
theorem o11 (vs : List V) : EE.orc 11 vs = none := by kernel_rfl
theorem h12 : EE.H 12 = ⟨[], [], [], [], [], [], [], [], [], [], [], []⟩ := by kernel_rfl
theorem o12 (vs : List V) : EE.orc 12 vs = none := by kernel_rfl
theorem h13 : EE.H 13 = ⟨[4, 34], [], [⟨0, [0, 3, 5, 6], [3]⟩], [], [], [], [], [], [], [], [], []⟩ := by kernel_rfl
theorem o13 (vs : List V) : EE.orc 13 vs = none := by kernel_rfl
theorem h14 : EE.H 14 = ⟨[], [], [], [], [], [], [], [], [], [], [], []⟩ := by kernel_rfl
theorem o14 (vs : List V) : EE.orc 14 vs = none := by kernel_rfl
theorem h15 : EE.H 15 = ⟨[], [], [], [14], [], [], [], [], [], [], [], []⟩ := by kernel_rfl
theorem o15 (vs : List V) : EE.orc 15 vs = none := by kernel_rfl
theorem h16 : EE.H 16 = ⟨[2], [], [⟨0, [0, 3, 4], []⟩], [], [], [], [], [], [], [], [], []⟩ := by kernel_rfl
theorem o16 (vs : List V) : EE.orc 16 vs = none := by kernel_rfl
theorem h17 : EE.H 17 = ⟨[2], [], [⟨0, [1, 3], [1]⟩], [], [], [], [], [], [], [], [], []⟩ := by kernel_rfl
theorem o17 (vs : List V) : EE.orc 17 vs = none := by kernel_rfl
theorem h18 : EE.H 18 = ⟨[2, 3, 15, 19], [], [⟨0, [0, 3, 4], []⟩], [], [], [], [], [], [], [], [], []⟩ := by kernel_rfl
theorem o18 (vs : List V) : EE.orc 18 vs = none := by kernel_rfl
theorem h19 : EE.H 19 = ⟨[4, 8, 9], [], [], [], [], [], [], [], [], [], [], []⟩ := by kernel_rfl
theorem o19 (vs : List V) : EE.orc 19 vs = none := by kernel_rfl
theorem h20 : EE.H 20 = ⟨[], [], [], [], [], [], [], [], [], [], [], []⟩ := by kernel_rfl
theorem o20 (vs : List V) : EE.orc 20 vs = none := by kernel_rfl
theorem h21 : EE.H 21 = ⟨[10, 17, 21, 42, 40, 4], [], [⟨0, [1, 2, 4, 5, 8, 11], [5, 8]⟩], [], [], [], [], [], [], [], [], [41]⟩ := by kernel_rfl
theorem o21 (vs : List V) : EE.orc 21 vs = none := by kernel_rfl
theorem h22 : EE.H 22 = ⟨[2], [], [⟨0, [1, 3, 4], [1]⟩], [], [], [], [], [], [], [], [], []⟩ := by kernel_rfl
theorem o22 (vs : List V) : EE.orc 22 vs = none := by kernel_rfl
theorem h23 : EE.H 23 = ⟨[], [], [⟨0, [0, 3], []⟩], [], [], [], [], [], [], [], [], []⟩ := by kernel_rfl
theorem o23 (vs : List V) : EE.orc 23 vs = none := by kernel_rfl
theorem h24 : EE.H 24 = ⟨[2], [], [], [], [], [], [], [], [], [], [], []⟩ := by kernel_rfl
theorem o24 (vs : List V) : EE.orc 24 vs = none := by kernel_rfl
theorem h25 : EE.H 25 = ⟨[2], [], [], [], [], [], [], [], [], [], [], []⟩ := by kernel_rfl
theorem o25 (vs : List V) : EE.orc 25 vs = none := by kernel_rfl
theorem h26 : EE.H 26 = ⟨[4], [], [], [], [], [], [], [], [], [], [], []⟩ := by kernel_rfl
theorem o26 (vs : List V) : EE.orc 26 vs = none := by kernel_rfl
theorem h27 : EE.H 27 = ⟨[4], [], [], [], [], [], [], [], [], [], [], []⟩ := by kernel_rfl
theorem o27 (vs : List V) : EE.orc 27 vs = none := by kernel_rfl
theorem h28 : EE.H 28 = ⟨[], [], [], [], [], [], [], [], [], [], [], []⟩ := by kernel_rfl
theorem o28 (vs : List V) : EE.orc 28 vs = none := by kernel_rfl
theorem h29 : EE.H 29 = ⟨[6], [], [], [], [], [], [], [], [], [], [], []⟩ := by kernel_rfl
theorem o29 (vs : List V) : EE.orc 29 vs = none := by kernel_rfl
theorem h30 : EE.H 30 = ⟨[2], [], [], [], [], [], [], [], [], [], [], []⟩ := by kernel_rfl
theorem o30 (vs : List V) : EE.orc 30 vs = none := by kernel_rfl
theorem h31 : EE.H 31 = ⟨[], [], [], [], [], [], [], [], [], [], [], []⟩ := by kernel_rfl
theorem o31 (vs : List V) : EE.orc 31 vs = none := by kernel_rfl
theorem h32 : EE.H 32 = ⟨[4], [], [], [], [], [], [], [], [], [], [], []⟩ := by kernel_rfl
theorem o32 (vs : List V) : EE.orc 32 vs = none := by kernel_rfl
theorem h33 : EE.H 33 = ⟨[], [], [⟨0, [0, 2, 3, 4, 5], [2]⟩, ⟨2, [2, 3, 6, 7], [2]⟩], [], [], [], [], [], [], [], [], []⟩ := by kernel_rfl
theorem o33 (vs : List V) : EE.orc 33 vs = none := by kernel_rfl
theorem h34 : EE.H 34 = ⟨[4], [], [], [], [], [], [], [], [], [], [], []⟩ := by kernel_rfl
theorem o34 (vs : List V) : EE.orc 34 vs = none := by kernel_rfl
theorem h35 : EE.H 35 = ⟨[6, 44], [], [⟨0, [0, 2, 7, 8, 9], []⟩], [], [], [], [], [], [], [], [], []⟩ := by kernel_rfl
theorem o35 (vs : List V) : EE.orc 35 vs = none := by kernel_rfl
theorem h36 : EE.H 36 = ⟨[2], [], [], [], [], [], [], [], [], [], [], []⟩ := by kernel_rfl
theorem o36 (vs : List V) : EE.orc 36 vs = none := by kernel_rfl
theorem h37 : EE.H 37 = ⟨[2], [], [], [], [], [], [], [], [], [], [], []⟩ := by kernel_rfl
theorem o37 (vs : List V) : EE.orc 37 vs = none := by kernel_rfl
theorem h38 : EE.H 38 = ⟨[2, 5, 29, 42], [], [⟨0, [0, 3, 4], []⟩, ⟨2, [0, 3, 4, 5, 6], []⟩, ⟨4, [0, 3, 4, 5, 6, 7], []⟩], [], [], [], [], [], [], [], [], []⟩ := by kernel_rfl
theorem o38 (vs : List V) : EE.orc 38 vs = none := by kernel_rfl
theorem h39 : EE.H 39 = ⟨[], [], [⟨0, [2, 3, 5], [2, 3]⟩], [], [], [], [], [], [], [], [], []⟩ := by kernel_rfl
theorem o39 (vs : List V) : EE.orc 39 vs = none := by kernel_rfl
theorem h40 : EE.H 40 = ⟨[2], [], [⟨0, [1, 3, 4], [1]⟩], [], [], [], [], [], [], [], [], []⟩ := by kernel_rfl
theorem o40 (vs : List V) : EE.orc 40 vs = none := by kernel_rfl
theorem h41 : EE.H 41 = ⟨[2, 20], [], [⟨0, [0, 3, 4], []⟩], [], [], [], [], [], [], [], [], []⟩ := by kernel_rfl
theorem o41 (vs : List V) : EE.orc 41 vs = none := by kernel_rfl
theorem h42 : EE.H 42 = ⟨[4], [], [], [], [], [], [], [], [], [], [], []⟩ := by kernel_rfl
theorem h43 : EE.H 43 = ⟨[4, 5, 16, 25, 28], [], [⟨0, [0, 1, 5, 6], []⟩], [], [], [], [], [], [], [], [], []⟩ := by kernel_rfl
theorem o43 (vs : List V) : EE.orc 43 vs = none := by kernel_rfl
theorem h44 : EE.H 44 = ⟨[4, 5], [], [], [], [], [], [], [], [], [], [], []⟩ := by kernel_rfl
theorem o44 (vs : List V) : EE.orc 44 vs = none := by kernel_rfl
theorem h45 : EE.H 45 = ⟨[4, 20], [], [⟨0, [0, 1, 5, 6], []⟩], [], [], [], [], [], [], [], [], []⟩ := by kernel_rfl
theorem o45 (vs : List V) : EE.orc 45 vs = none := by kernel_rfl
theorem h46 : EE.H 46 = ⟨[6, 33], [], [⟨0, [0, 1, 2, 7, 8], []⟩], [], [], [], [], [], [], [], [], []⟩ := by kernel_rfl
theorem o46 (vs : List V) : EE.orc 46 vs = none := by kernel_rfl
theorem h47 : EE.H 47 = ⟨[2, 57], [], [], [], [], [], [], [], [], [], [], []⟩ := by kernel_rfl
theorem o47 (vs : List V) : EE.orc 47 vs = none := by kernel_rfl
theorem h48 : EE.H 48 = ⟨[4], [], [], [], [], [], [], [], [], [], [], []⟩ := by kernel_rfl
theorem o48 (vs : List V) : EE.orc 48 vs = none := by kernel_rfl
theorem h49 : EE.H 49 = ⟨[2, 12], [], [⟨0, [0, 3], []⟩], [], [], [], [], [], [], [], [], []⟩ := by kernel_rfl
theorem o49 (vs : List V) : EE.orc 49 vs = none := by kernel_rfl
theorem h50 : EE.H 50 = ⟨[2], [], [⟨0, [0, 3], []⟩], [], [], [], [], [], [], [], [], []⟩ := by kernel_rfl
theorem o50 (vs : List V) : EE.orc 50 vs = none := by kernel_rfl
theorem h51 : EE.H 51 = ⟨[2], [], [], [], [], [], [], [], [], [], [], []⟩ := by kernel_rfl
theorem o51 (vs : List V) : EE.orc 51 vs = none := by kernel_rfl
theorem h52 : EE.H 52 = ⟨[2], [], [], [], [], [], [], [], [], [], [], []⟩ := by kernel_rfl
theorem o52 (vs : List V) : EE.orc 52 vs = none := by kernel_rfl
theorem h53 : EE.H 53 = ⟨[2], [], [⟨0, [0, 3], []⟩], [], [], [], [], [], [], [], [], []⟩ := by kernel_rfl
theorem o53 (vs : List V) : EE.orc 53 vs = none := by kernel_rfl
theorem h54 : EE.H 54 = ⟨[6], [], [], [], [], [], [], [], [], [], [], []⟩ := by kernel_rfl
theorem o54 (vs : List V) : EE.orc 54 vs = none := by kernel_rfl
theorem h55 : EE.H 55 = ⟨[4], [], [], [], [], [], [], [], [], [], [], []⟩ := by kernel_rfl
theorem o55 (vs : List V) : EE.orc 55 vs = none := by kernel_rfl
theorem h56 : EE.H 56 = ⟨[4], [], [], [], [], [], [], [], [], [], [], []⟩ := by kernel_rfl
theorem o56 (vs : List V) : EE.orc 56 vs = none := by kernel_rfl
theorem h57 : EE.H 57 = ⟨[4, 26], [], [⟨0, [1, 2, 5], [2]⟩], [], [], [], [], [], [], [], [], []⟩ := by kernel_rfl
theorem o57 (vs : List V) : EE.orc 57 vs = none := by kernel_rfl
theorem h58 : EE.H 58 = ⟨[2], [], [⟨0, [1, 3, 4], [1]⟩], [], [], [], [], [], [], [], [], []⟩ := by kernel_rfl
theorem o58 (vs : List V) : EE.orc 58 vs = none := by kernel_rfl
theorem h59 : EE.H 59 = ⟨[2], [], [⟨0, [1, 3], [1]⟩], [], [], [], [], [], [], [], [], []⟩ := by kernel_rfl
theorem o59 (vs : List V) : EE.orc 59 vs = none := by kernel_rfl
theorem h60 : EE.H 60 = ⟨[4], [], [], [], [], [], [], [], [], [], [], []⟩ := by kernel_rfl
theorem o60 (vs : List V) : EE.orc 60 vs = none := by kernel_rfl
theorem h61 : EE.H 61 = ⟨[4], [], [], [], [], [], [], [], [], [], [], []⟩ := by kernel_rfl
theorem o61 (vs : List V) : EE.orc 61 vs = none := by kernel_rfl
theorem h63 : EE.H 63 = ⟨[4, 8, 9], [], [], [], [], [], [], [], [], [], [], []⟩ := by kernel_rfl
theorem o63 (vs : List V) : EE.orc 63 vs = none := by kernel_rfl
theorem h64 : EE.H 64 = ⟨[2], [], [⟨0, [0, 3], []⟩], [], [], [], [], [], [], [], [], []⟩ := by kernel_rfl
theorem o64 (vs : List V) : EE.orc 64 vs = none := by kernel_rfl
theorem h65 : EE.H 65 = ⟨[], [], [], [], [], [], [], [], [], [], [], []⟩ := by kernel_rfl
theorem o65 (vs : List V) : EE.orc 65 vs = none := by kernel_rfl
theorem h66 : EE.H 66 = ⟨[4, 5, 7, 17, 37, 50, 62, 72], [], [⟨0, [0, 3, 5, 6], [3]⟩, ⟨2, [0, 3, 5, 7, 8], [3]⟩], [], [], [], [], [], [], [], [], []⟩ := by kernel_rfl
theorem o66 (vs : List V) : EE.orc 66 vs = none := by kernel_rfl
theorem h67 : EE.H 67 = ⟨[8], [], [], [], [], [], [], [], [], [], [], []⟩ := by kernel_rfl
theorem o67 (vs : List V) : EE.orc 67 vs = none := by kernel_rfl
theorem h68 : EE.H 68 = ⟨[], [], [⟨0, [0, 1, 2, 6], []⟩, ⟨2, [0, 1, 2, 6, 7], []⟩], [], [], [], [], [], [], [], [], []⟩ := by kernel_rfl
theorem o68 (vs : List V) : EE.orc 68 vs = none := by kernel_rfl
theorem h69 : EE.H 69 = ⟨[], [], [], [], [], [], [], [], [], [], [], []⟩ := by kernel_rfl
theorem o69 (vs : List V) : EE.orc 69 vs = none := by kernel_rfl
theorem h70 : EE.H 70 = ⟨[8], [], [⟨1, [0, 2, 3, 9, 10], []⟩], [], [], [], [], [], [], [], [], []⟩ := by kernel_rfl
theorem o70 (vs : List V) : EE.orc 70 vs = none := by kernel_rfl
attribute [go_sem] EP h3 o3 h4 o4 h5 o5 h6 o6 h7 o7 h8 o8 h9 o9 h10 o10 h11 o11 h12 o12 h13 o13 h14 o14 h15 o15 h16 o16 h17 o17 h18 o18 h19 o19 h20 o20 h21 o21 h22 o22 h23 o23 h24 o24 h25 o25 h26 o26 h27 o27 h28 o28 h29 o29 h30 o30 h31 o31 h32 o32 h33 o33 h34 o34 h35 o35 h36 o36 h37 o37 h38 o38 h39 o39 h40 o40 h41 o41 h42 o42 h43 o43 h44 o44 h45 o45 h46 o46 h47 o47 h48 o48 h49 o49 h50 o50 h51 o51 h52 o52 h53 o53 h54 o54 h55 o55 h56 o56 h57 o57 h58 o58 h59 o59 h60 o60 h61 o61 h63 o63 h64 o64 h65 o65 h66 o66 h67 o67 h68 o68 h69 o69 h70 o70
end Go.Ev
namespace Go.Ev
open Go Go.Proofs
set_option maxRecDepth 10000

theorem r25 (c : Int) (h : 0 ≤ c) (h' : c < 256) : run EE 25 [.int .u8 c] [] = some (.int .i64 (ltr c), []) := by
 rw [run_eq EE 25 _ _ Try.func25 (by decide +kernel) rfl (show 1 ≤ _ by decide)]
 dsimp only [Try.f25]
 simp only [go_sem, o42, idx_abc c h h']
theorem r49 (c : Int) : run EE 49 [.int .u8 c] [] = some (.int .i64 (ltr c), []) := by
 rw [run_eq EE 49 _ _ Try.func49 (by decide +kernel) rfl (show 1 ≤ _ by decide)]
 dsimp only [Try.f49]
 have b0 : bt ⟨#[97, 98, 99]⟩ 0 = 97 := by decide +kernel
 have b1 : bt ⟨#[97, 98, 99]⟩ 1 = 98 := by decide +kernel
 have b2 : bt ⟨#[97, 98, 99]⟩ 2 = 99 := by decide +kernel
 have hz : ByteArray.size ⟨#[97, 98, 99]⟩ = 3 := by decide
 simp only [go_sem, iter_eq, b0, hz]
 refine condL_bool (fun k => ?_) (fun k => ?_)
 · have e : c = 97 := by have := eq_of_beq k; omega
   subst e
   simp only [go_sem, ltr]
 · have e : ¬ c = 97 := by intro e; subst e; cases k
   simp only [go_sem, iter_eq, b1, hz]
   refine condL_bool (fun k => ?_) (fun k => ?_)
   · have e' : c = 98 := by have := eq_of_beq k; omega
     subst e'
     simp only [go_sem, ltr]
   · have e' : ¬ c = 98 := by intro e; subst e; cases k
     simp only [go_sem, iter_eq, b2, hz]
     refine condL_bool (fun k => ?_) (fun k => ?_)
     · have e'' : c = 99 := by have := eq_of_beq k; omega
       subst e''
       simp only [go_sem, ltr]
     · have e'' : ¬ c = 99 := by intro e; subst e; cases k
       simp only [go_sem, iter_eq, ltr, e, e', e'']
theorem r54 (a b c : Int) : run EE 54 [.int .i64 a, .int .i64 b, .int .i64 c] [] = some (.bool (decide (b ≤ a) && decide (a ≤ c)), []) := by
 rw [run_eq EE 54 _ _ Try.func54 (by decide +kernel) rfl (show 3 ≤ _ by decide)]
 dsimp only [Try.f54]
 simp only [go_sem]
 refine guardL_bool (fun k => ?_) (fun k => ?_) <;> simp only [go_sem, k, ge_iff_le, Bool.true_and, Bool.false_and] at k ⊢ <;> simp only [go_sem, k, Bool.true_and, Bool.false_and]
end Go.Ev
namespace Go.Ev
open Go Go.Proofs
set_option maxRecDepth 10000

theorem r24 (c : Int) (h : 0 ≤ c) (h' : c < 256) : run EE 24 [.int .u8 c] [] = some (.bool (isVar c), []) := by
 rw [run_eq EE 24 _ _ Try.func24 (by decide +kernel) rfl (show 1 ≤ _ by decide)]
 dsimp only [Try.f24]
 simp only [go_sem, o42, isVar_idx c h h']
theorem r30 (c : Int) : run EE 30 [.int .u8 c] [] = some (.bool (isVar c), []) := by
 rw [run_eq EE 30 _ _ Try.func30 (by decide +kernel) rfl (show 1 ≤ _ by decide)]
 dsimp only [Try.f30]
 simp only [go_sem]
 refine guardL_bool (fun k => ?_) (fun k => ?_) <;> simp only [go_sem, k, isVar, Bool.true_and, Bool.false_and]
theorem r19 (a b : Int) : run EE 19 [.int .i64 a, .int .i64 b] [] = some (.int .i64 (if a < b then a else b), []) := by
 rw [run_eq EE 19 _ _ Try.func19 (by decide +kernel) rfl (show 2 ≤ _ by decide)]
 dsimp only [Try.f19]
 simp only [go_sem]
 refine condL_dec (fun k => ?_) (fun k => ?_) <;> simp only [go_sem, k]
end Go.Ev
namespace Go.Ev
open Go Go.Proofs
set_option maxRecDepth 10000

theorem r23 (s : ByteArray) (hs : s.size ≤ 9223372036854775806) : run EE 23 [.str s] [] = some (.bool (allB isVar s 0), []) := by
 rw [run_eq EE 23 _ _ Try.func23 (by decide +kernel) rfl (show 1 ≤ _ by decide)]
 dsimp only [Try.f23]
 simp only [go_sem]
 refine iter_rule (fun i : Nat => { t := upd (upd e0 3 (.int .i64 i)) 0 (.str s), b := n0, o := [], r := #[ResultVar.tmp 2], f := 23, n := 15 }) (fun i => some (.bool (allB isVar s i), [])) (fun i => s.size - i) ?_ 0
 intro i ih
 by_cases h : i < s.size
 · have h1 : (i : Int) < s.size := by omega
   have w := wrap_nat (n := i) (by omega)
   have f2 := r24 (bt s i) (bt_nonneg s i) (bt_lt s i)
   rw [allB_next isVar s h]
   simp only [go_sem, h1, f2]
   refine condL_bool (fun c => ?_) (fun c => ?_)
   · have c' : isVar (bt s i) = false := by simpa using c
     simp only [go_sem, c', Bool.false_and, Bool.not_false]
   · have c' : isVar (bt s i) = true := by simpa using c
     simp only [go_sem, c', Bool.true_and, w]
     exact ih (i + 1) (by omega)
 · have h1 : ¬ (i : Int) < s.size := by omega
   rw [allB_end isVar s h]
   simp only [go_sem, h1]
theorem r45 (s : ByteArray) (b : Int) (hs : s.size ≤ 9223372036854775806) : run EE 45 [.str s, .int .u8 b] [] = some (.int .i64 (cntB b s 0), []) := by
 rw [run_eq EE 45 _ _ Try.func45 (by decide +kernel) rfl (show 2 ≤ _ by decide)]
 dsimp only [Try.f45]
 simp only [go_sem]
 refine (iter_inv (fun x : Nat × Nat => x.2 ≤ x.1) (fun x => { t := upd (upd (upd (upd e0 6 (.int .i64 x.1)) 5 (.int .i64 x.2)) 1 (.int .u8 b)) 0 (.str s), b := n0, o := [], r := #[ResultVar.tmp 4], f := 45, n := 21 }) (fun x => some (.int .i64 ((x.2 + cntB b s x.1 : Nat) : Int), [])) (fun x => s.size - x.1) ?_ (0, 0) (Nat.le_refl _)).trans (by simp)
 rintro ⟨i, n⟩ hn ih
 dsimp only at hn ⊢
 by_cases h : i < s.size
 · have h1 : (i : Int) < s.size := by omega
   have w := wrap_nat (n := i) (by omega)
   have w' := wrap_nat (n := n) (by omega)
   rw [cntB_next b s h]
   simp only [go_sem, h1]
   refine condL_bool (fun c => ?_) (fun c => ?_)
   · have c' : bt s i = b := by simpa using c
     simp only [go_sem, c', w, w', if_true]
     rw [ih (i + 1, n + 1) (by show n + 1 ≤ i + 1; omega) (by show s.size - (i + 1) < s.size - i; omega)]
     refine congrArg some (congrArg (·, []) (congrArg (V.int .i64) ?_))
     dsimp only
     omega
   · have c' : ¬ bt s i = b := by simpa using c
     simp only [go_sem, c', w, w', if_false]
     rw [ih (i + 1, n) (by show n ≤ i + 1; omega) (by show s.size - (i + 1) < s.size - i; omega)]
 · have h1 : ¬ (i : Int) < s.size := by omega
   rw [cntB_end b s h]
   simp only [go_sem, h1, Nat.add_zero]
theorem r9 (e : Equ) (hl : e.left.size ≤ 9223372036854775806) (hr : e.right.size ≤ 9223372036854775806) : run EE 9 [e.enc] [] = some ((strip e).enc, []) := by
 rw [run_eq EE 9 _ _ Try.func9 (by decide +kernel) rfl (show 1 ≤ _ by decide)]
 dsimp only [Try.f9]
 simp only [go_sem]
 refine iter_inv (fun i : Nat => i ≤ e.left.size ∧ i ≤ e.right.size) (fun i => { t := upd (upd (upd e0 3 (.int .i64 i)) 2 (.ptr 0 2 0)) 1 (.ptr 0 1 0), b := upd (upd n0 2 (some (Ob.box [.str ⟨#[]⟩, .str ⟨#[]⟩]))) 1 (some (Ob.box [.str e.left, .str e.right])), o := [], r := #[ResultVar.cell 2 25], f := 9, n := 38 }) (fun i => some ((Equ.mk (ext e.left (lcp e.left e.right i)) (ext e.right (lcp e.left e.right i))).enc, [])) (fun i => e.left.size - i) ?_ 0 ⟨Nat.zero_le _, Nat.zero_le _⟩
 rintro i ⟨hi, hi'⟩ ih

 simp only [go_sem]
 rw [q_drs]
 rotate_left
 · kernel_rfl
 have g1 : (i : Int) ≤ e.left.size := by omega
 have g2 : (i : Int) ≤ e.right.size := by omega
 by_cases h1 : i < e.left.size
 rotate_left
 · have k1 : ¬ (i : Int) < e.left.size := by omega
   rw [lcp_end (by omega)]
   simp only [go_sem, k1]
   rw [q_drs]
   rotate_left
   · kernel_rfl
   simp only [go_sem, k1, g1, g2, ext]
 have k1 : (i : Int) < e.left.size := by omega
 by_cases h2 : i < e.right.size
 rotate_left
 · have k2 : ¬ (i : Int) < e.right.size := by omega
   rw [lcp_end (by omega)]
   simp only [go_sem, k1, k2]
   rw [q_drs]
   rotate_left
   · kernel_rfl
   simp only [go_sem, g1, g2, ext]
 have k2 : (i : Int) < e.right.size := by omega
 by_cases h3 : bt e.left i = bt e.right i
 rotate_left
 · have k3 : (bt e.left i == bt e.right i) = false := by simpa using h3
   rw [lcp_end (by omega)]
   simp only [go_sem, k1, k2, k3]
   rw [q_drs]
   rotate_left
   · kernel_rfl
   simp only [go_sem, g1, g2, ext]
 have k3 : (bt e.left i == bt e.right i) = true := by simpa using h3
 have w := wrap_nat (n := i) (by omega)
 rw [lcp_next h1 h2 h3]
 simp only [go_sem, k1, k2, k3, w]
 exact ih (i + 1) ⟨by omega, by omega⟩ (by omega)
theorem r8 (e : Equ) (hl : e.left.size ≤ 9223372036854775806) (hr : e.right.size ≤ 9223372036854775806) : run EE 8 [e.enc] [] = some ((strip e).enc, []) := by
 rw [run_eq EE 8 _ _ Try.func8 (by decide +kernel) rfl (show 1 ≤ _ by decide)]
 dsimp only [Try.f8]
 simp only [go_sem]
 refine (congrArg (iter EE _ _) ?_).trans (iter_inv (fun i : Nat => i ≤ e.left.size ∧ i ≤ e.right.size) (fun i => { t := upd (upd e0 2 (.ptr 0 2 0)) 1 (.ptr 0 1 0), b := upd (upd n0 2 (some (Ob.box [.str ⟨#[]⟩, .str ⟨#[]⟩]))) 1 (some (Ob.box [.str (ext e.left i), .str (ext e.right i)])), o := [], r := #[ResultVar.cell 2 25], f := 8, n := 29 }) (fun i => some ((Equ.mk (ext e.left (lcp e.left e.right i)) (ext e.right (lcp e.left e.right i))).enc, [])) (fun i => e.left.size - i) ?_ 0 ⟨Nat.zero_le _, Nat.zero_le _⟩)
 · rw [ext_zero, ext_zero]
 rintro i ⟨hi, hi'⟩ ih
 simp only [go_sem]
 rw [q_drs]
 rotate_left
 · kernel_rfl
 have z1 : ((ext e.left i).toList == (ByteArray.mk #[]).toList) = decide ((ext e.left i).size = 0) := toList_nil _
 have z2 : ((ext e.right i).toList == (ByteArray.mk #[]).toList) = decide ((ext e.right i).size = 0) := toList_nil _
 by_cases h1 : i < e.left.size
 rotate_left
 · have k1 : (ext e.left i).size = 0 := by rw [ext_size]; omega
   rw [lcp_end (by omega)]
   simp only [go_sem, z1, k1, Bool.not_true]
 have k1 : ¬ (ext e.left i).size = 0 := by rw [ext_size]; omega
 by_cases h2 : i < e.right.size
 rotate_left
 · have k2 : (ext e.right i).size = 0 := by rw [ext_size]; omega
   rw [lcp_end (by omega)]
   simp only [go_sem, z1, z2, k1, k2, Bool.not_true, Bool.not_false]
 have k2 : ¬ (ext e.right i).size = 0 := by rw [ext_size]; omega
 have p1 : (0 : Int) < (ext e.left i).size := by omega
 have p2 : (0 : Int) < (ext e.right i).size := by omega
 have p3 : (1 : Int) ≤ ((e.left.size - i : Nat) : Int) := by omega
 have p4 : (1 : Int) ≤ ((e.right.size - i : Nat) : Int) := by omega
 by_cases h3 : bt e.left i = bt e.right i
 rotate_left
 · have k3 : (bt e.left i == bt e.right i) = false := by simpa using h3
   rw [lcp_end (by omega)]
   simp only [go_sem, z1, z2, k1, k2, p1, p2, ext_bt0 e.left i h1, ext_bt0 e.right i h2, k3, Bool.not_false]
 have k3 : (bt e.left i == bt e.right i) = true := by simpa using h3
 rw [lcp_next h1 h2 h3]
 simp only [go_sem, z1, z2, k1, k2, p1, p2, ext_bt0 e.left i h1, ext_bt0 e.right i h2, k3, Bool.not_false]
 rw [q_drs]
 rotate_left
 · kernel_rfl
 simp only [go_sem, p3, p4, ext_size]
 rw [ext_ext, ext_ext]
 exact ih (i + 1) ⟨by omega, by omega⟩ (by omega)
theorem r46 (s : ByteArray) (c : Int) (b : ByteArray) (hs : s.size ≤ 9223372036854775806) (hb : b.size ≤ 1048576) : run EE 46 [.str s, .int .u8 c, .str b] [] = some (.str (repV s c b), []) := by
 rw [run_eq EE 46 _ _ Try.func46 (by decide +kernel) rfl (show 3 ≤ _ by decide)]
 dsimp only [Try.f46]
 simp only [go_sem]
 refine iter_inv (fun x : Nat × ByteArray => x.2.size ≤ 1048576) (fun x => { t := upd (upd (upd (upd (upd e0 8 (.int .i64 x.1)) 7 (.str x.2)) 2 (.str b)) 1 (.int .u8 c)) 0 (.str s), b := n0, o := [], r := #[ResultVar.tmp 6], f := 46, n := 34 }) (fun x => some (.str (repl (fun i => if bt s i = c then b else one s i) s x.1 x.2), [])) (fun x => s.size - x.1) ?_ (0, ⟨#[]⟩) (by decide)
 rintro ⟨i, out⟩ ho ih
 dsimp only at ho ⊢
 by_cases h : i < s.size
 · have h1 : (i : Int) < s.size := by omega
   have h2 : ((i + 1 : Nat) : Int) ≤ s.size := by omega
   have h3 : (i : Int) ≤ ((i + 1 : Nat) : Int) := by omega
   have w := wrap_nat (n := i) (by omega)
   have o1 := one_size s i h
   have a1 : ¬ ((out.size + b.size : Nat) : Int) > 9223372036854775807 := by omega
   have a2 : ¬ ((out.size + (one s i).size : Nat) : Int) > 9223372036854775807 := by omega
   have eo : s.extract i (i + 1) = one s i := rfl
   rw [repl_next h]
   simp only [go_sem, h1]
   refine condL_bool (fun k => ?_) (fun k => ?_)
   · have k' : bt s i = c := by simpa using k
     rw [if_pos k']
     simp only [go_sem, a1, k']
     refine condL_dec (fun z => ?_) (fun z => ?_)
     · rw [if_pos (by omega)]
       simp only [go_sem]
     · rw [if_neg (by omega)]
       simp only [go_sem, w]
       exact ih (i + 1, out ++ b) (by show (out ++ b).size ≤ 1048576; omega) (by show s.size - (i + 1) < s.size - i; omega)
   · have k' : ¬ bt s i = c := by simpa using k
     rw [if_neg k']
     simp only [go_sem, w, h2, h3, eo, a2, k']
     refine condL_dec (fun z => ?_) (fun z => ?_)
     · rw [if_pos (by omega)]
       simp only [go_sem]
     · rw [if_neg (by omega)]
       simp only [go_sem, w]
       exact ih (i + 1, out ++ one s i) (by show (out ++ one s i).size ≤ 1048576; omega) (by show s.size - (i + 1) < s.size - i; omega)
 · have h1 : ¬ (i : Int) < s.size := by omega
   rw [repl_end h]
   simp only [go_sem, h1]
theorem r44 (c n : Int) (b : ByteArray) (b' o : Nat → Option Ob) (h4 : o 4 = some (Ob.box [.int .u8 n])) (h5 : o 5 = some (Ob.box [.str b])) : run EE 44 [.int .u8 c, .ptr 0 5 0, .ptr 0 4 0] [b', o] = some (.tup [.str b, .bool (c == n)], [b', o]) := by
 rw [run_eq EE 44 _ _ Try.func44 (by decide +kernel) rfl (show 3 ≤ _ by decide)]
 dsimp only [Try.f44]
 simp only [go_sem]
 rw [q_drs]
 rotate_left
 · kernel_rfl
 simp only [go_sem, h4, h5]
theorem r43 (s : ByteArray) (g a d : Nat) (F : Int → ByteArray × Bool) (o : Nat → Option Ob) (hs : s.size ≤ 9223372036854775806) (hb : ∀ c, (F c).1.size ≤ 1048576)
   (ho : ∀ vs, EE.orc g vs = none) (hu : (EE.H g).uniq = []) (hF : ∀ (c : Int) (b' : Nat → Option Ob), 0 ≤ c → c < 256 → run EE g [.int .u8 c, .ptr 0 a 0, .ptr 0 d 0] [b', o] = some (.tup [.str (F c).1, .bool (F c).2], [b', o])) :
   run EE 43 [.str s, .fn g [.ptr 0 a 0, .ptr 0 d 0]] [o] = some (.str (repl (fun i => if (F (bt s i)).2 = true then (F (bt s i)).1 else one s i) s 0 ⟨#[]⟩), [o]) := by
 rw [run_eq EE 43 _ _ Try.func43 (by decide +kernel) rfl (show 2 ≤ _ by decide)]
 dsimp only [Try.f43]
 simp only [go_sem]
 refine iter_inv (fun x : Nat × ByteArray => x.2.size ≤ 1048576) (fun x => { t := upd (upd (upd (upd e0 6 (.int .i64 x.1)) 5 (.slc true 1 (bytesV x.2))) 1 (.fn g [.ptr 0 a 0, .ptr 0 d 0])) 0 (.str s), b := n0, o := [o], r := #[ResultVar.tmp 4], f := 43, n := 39 }) (fun x => some (.str (repl (fun i => if (F (bt s i)).2 = true then (F (bt s i)).1 else one s i) s x.1 x.2), [o])) (fun x => s.size - x.1) ?_ (0, ⟨#[]⟩) (by decide)
 rintro ⟨i, out⟩ hi ih
 dsimp only at hi ⊢
 by_cases h : i < s.size
 · have h1 : (i : Int) < s.size := by omega
   have w := wrap_nat (n := i) (by omega)
   have f1 := hF (bt s i) n0 (bt_nonneg s i) (bt_lt s i)
   have b1 := hb (bt s i)
   have o1 := one_size s i h
   rw [repl_next h]
   simp only [go_sem, h1, ho, hu, f1]
   refine condL_bool (fun k => ?_) (fun k => ?_)
   · have a1 : (out.size + (F (bt s i)).1.size) * 1 ≤ 140737488355328 := by omega
     rw [if_pos k]
     simp only [go_sem, k, a1, ← bytesV_append, bytesV_len]
     refine condL_dec (fun z => ?_) (fun z => ?_)
     · have z' : (out ++ (F (bt s i)).1).size > 1048576 := by omega
       rw [if_pos z']
       simp only [go_sem]
     · have z' : ¬ (out ++ (F (bt s i)).1).size > 1048576 := by omega
       rw [if_neg z']
       simp only [go_sem, w]
       exact ih (i + 1, out ++ (F (bt s i)).1) (by show (out ++ (F (bt s i)).1).size ≤ 1048576; omega) (by show s.size - (i + 1) < s.size - i; omega)
   · have k' : ¬ (F (bt s i)).2 = true := by rw [k]; decide
     have a1 : (out.size + 1) * 1 ≤ 140737488355328 := by omega
     have e1 : bytesV out ++ [.int .u8 (bt s i)] = bytesV (out ++ one s i) := by rw [bytesV_append]; exact congrArg _ (bytesV_one s i h).symm
     rw [if_neg k']
     simp only [go_sem, k, h1, a1, e1, bytesV_len]
     refine condL_dec (fun z => ?_) (fun z => ?_)
     · have z' : (out ++ one s i).size > 1048576 := by omega
       rw [if_pos z']
       simp only [go_sem]
     · have z' : ¬ (out ++ one s i).size > 1048576 := by omega
       rw [if_neg z']
       simp only [go_sem, w]
       exact ih (i + 1, out ++ one s i) (by show (out ++ one s i).size ≤ 1048576; omega) (by show s.size - (i + 1) < s.size - i; omega)
 · have h1 : ¬ (i : Int) < s.size := by omega
   rw [repl_end h]
   simp only [go_sem, h1, u8_bytesV, ofInts_bytesV]
theorem r29 (s : ByteArray) (c : Int) (b : ByteArray) (hs : s.size ≤ 9223372036854775806) (hb : b.size ≤ 1048576) : run EE 29 [.str s, .int .u8 c, .str b] [] = some (.str (repV s c b), []) := by
 have key := r43 s 44 5 4 (fun x => (b, x == c)) (upd (upd n0 4 (some (Ob.box [.int .u8 c]))) 5 (some (Ob.box [.str b]))) hs (fun _ => hb) (fun _ => o44 _) rfl
   (fun x b' _ _ => r44 x c b b' _ rfl rfl)
 simp only [beq_iff_eq] at key
 rw [run_eq EE 29 _ _ Try.func29 (by decide +kernel) rfl (show 3 ≤ _ by decide)]
 dsimp only [Try.f29]
 simp only [go_sem, key]
 rfl
end Go.Ev
namespace Go.Ev
open Go Go.Proofs
set_option maxRecDepth 10000

theorem r7 (e : Equ) (hl : e.left.size ≤ 1048576) (hr : e.right.size ≤ 1048576) : run EE 7 [e.enc] [] = some (.bool (clash (strip e)), []) := by
 have st := r8 e (by omega) (by omega)
 obtain ⟨q1, q2⟩ := strip_le e
 simp only [Equ.enc] at st
 generalize strip e = s at st q1 q2 ⊢
 have hd := r23 (s.left ++ s.right) (by rw [ByteArray.size_append]; omega)
 have v1 := r24 (bt s.left 0) (bt_nonneg _ _) (bt_lt _ _)
 have v2 := r24 (bt s.right 0) (bt_nonneg _ _) (bt_lt _ _)
 have a1 : ¬ ((s.left.size + s.right.size : Nat) : Int) > 9223372036854775807 := by omega
 rw [run_eq EE 7 _ _ Try.func7 (by decide +kernel) rfl (show 1 ≤ _ by decide)]
 dsimp only [Try.f7]
 unfold clash
 by_cases k1 : s.left.size = 0
 · rw [if_pos (Or.inl k1)]
   have a1' : ¬ ((s.right.size : Nat) : Int) > 9223372036854775807 := by omega
   simp only [go_sem, st, toList_nil, k1, a1', hd]
 by_cases k2 : s.right.size = 0
 · rw [if_pos (Or.inr k2)]
   have a1' : ¬ ((s.left.size : Nat) : Int) > 9223372036854775807 := by omega
   simp only [go_sem, st, toList_nil, k1, k2, a1', Nat.add_zero, hd]
 have p1 : (0 : Int) < s.left.size := by omega
 have p2 : (0 : Int) < s.right.size := by omega
 rw [if_neg (by omega)]
 simp only [go_sem, st, toList_nil, k1, k2, p1, p2, v1, v2]
 refine guardL_bool (fun c => ?_) (fun c => ?_)
 · simp only [go_sem, c, p1, p2, v2, Bool.true_and]
 · simp only [go_sem, c, p1, p2, v2, Bool.false_and]
theorem r12 (e : Equ) (m : Mov) (hl : e.left.size ≤ 1048576) (hr : e.right.size ≤ 1048576) (hm : m.by_.size ≤ 1048576) : run EE 12 [e.enc, m.enc] [] = some ((strip ⟨repV e.left m.name m.by_, repV e.right m.name m.by_⟩).enc, []) := by
 have f1 := r29 e.left m.name m.by_ (by omega) hm
 have f2 := r29 e.right m.name m.by_ (by omega) hm
 have l1 := repV_le e.left m.name m.by_
 have l2 := repV_le e.right m.name m.by_
 have st := r8 ⟨repV e.left m.name m.by_, repV e.right m.name m.by_⟩ (by dsimp only; omega) (by dsimp only; omega)
 simp only [Equ.enc] at st
 rw [run_eq EE 12 _ _ Try.func12 (by decide +kernel) rfl (show 2 ≤ _ by decide)]
 dsimp only [Try.f12]
 simp only [go_sem]
 rw [q_drs]
 rotate_left
 · kernel_rfl
 simp only [go_sem, f1, f2, st]
end Go.Ev

namespace Go.Ev
open Go Go.Proofs
set_option maxRecDepth 10000

set_option maxHeartbeats 1000000 in
theorem r10 (e : Equ) (hl : e.left.size ≤ 1048576) (hr : e.right.size ≤ 1048576) : run EE 10 [e.enc] [] = some (.slc true 2 ((moves (strip e)).map Mov.enc), []) := by
 have st := r8 e (by omega) (by omega)
 obtain ⟨q1, q2⟩ := strip_le e
 have cl := r7 (strip e) (by omega) (by omega)
 rw [strip_strip] at cl
 simp only [Equ.enc] at st cl
 generalize strip e = s at st cl q1 q2 ⊢
 have v1 := r24 (bt s.left 0) (bt_nonneg _ _) (bt_lt _ _)
 have v2 := r24 (bt s.right 0) (bt_nonneg _ _) (bt_lt _ _)
 have t1 := r25 (bt s.left 0) (bt_nonneg _ _) (bt_lt _ _)
 have t2 := r25 (bt s.right 0) (bt_nonneg _ _) (bt_lt _ _)
 have a1 : ¬ ((s.left.size + s.right.size : Nat) : Int) > 9223372036854775807 := by omega
 have a2 : ¬ ((s.right.size : Nat) : Int) > 9223372036854775807 := by omega
 have a3 : ¬ ((s.left.size + 0 : Nat) : Int) > 9223372036854775807 := by omega
 have a4 : ¬ (0 : Int) > 9223372036854775807 := by decide
 rw [run_eq EE 10 _ _ Try.func10 (by decide +kernel) rfl (show 1 ≤ _ by decide)]
 dsimp only [Try.f10]
 unfold moves
 by_cases k0 : s.left.size = 0 ∧ s.right.size = 0 ∨ clash s = true
 · rw [if_pos k0]
   by_cases k1 : s.left.size = 0
   · by_cases k2 : s.right.size = 0
     · simp only [go_sem, st, cl, toList_nil, a1, a2, a3, a4, app_nil, k1, k2]
     · have kc : clash s = true := by rcases k0 with k0 | k0; exact absurd k0.2 k2; exact k0
       rw [kc] at cl
       simp only [go_sem, st, cl, toList_nil, a1, a2, a3, a4, app_nil, k1, k2]
   · have kc : clash s = true := by rcases k0 with k0 | k0; exact absurd k0.1 k1; exact k0
     rw [kc] at cl
     simp only [go_sem, st, cl, toList_nil, a1, a2, a3, a4, app_nil, k1, Bool.false_and]
 rw [if_neg k0]
 have kc : clash s = false := by
   cases h : clash s
   · rfl
   · exact absurd (.inr h) k0
 rw [kc] at cl
 by_cases k1 : s.left.size = 0
 · have k2 : ¬ s.right.size = 0 := fun h => k0 (.inl ⟨k1, h⟩)
   have p2 : (0 : Int) < s.right.size := by omega
   rw [if_pos k1]
   simp only [go_sem, st, cl, toList_nil, a1, a2, a3, a4, bt_app_right _ _ k1, k1, k2, p2]
 have p1 : (0 : Int) < s.left.size := by omega
 rw [if_neg k1]
 by_cases k2 : s.right.size = 0
 · rw [if_pos k2]
   have p3 : (0 : Int) < ((s.left ++ s.right).size : Nat) := by rw [ByteArray.size_append]; omega
   simp only [go_sem, st, cl, toList_nil, a1, a2, a3, a4, app_nil, k1, k2, p1, p3, bt_app_left _ _ (by omega : 0 < s.left.size), Bool.false_and]
 have p2 : (0 : Int) < s.right.size := by omega
 rw [if_neg k2]
 simp only [go_sem, st, cl, toList_nil, a1, a2, a3, a4, app_nil, k1, k2, Bool.false_and]
 rw [q_drs]
 rotate_left
 · kernel_rfl
 simp only [go_sem, p1, p2]
 generalize bt s.left 0 = L at v1 t1 ⊢
 generalize bt s.right 0 = R at v2 t2 ⊢
 unfold first2
 cases va : isVar L <;> cases vb : isVar R <;> rw [va] at v1 <;> rw [vb] at v2
 · simp only [go_sem, iter_eq, List.flatten_cons, List.flatten_nil, v1, v2, va, vb]
 · by_cases ca : 0 ≤ ltr L
   · simp only [go_sem, iter_eq, List.flatten_cons, List.flatten_nil, v1, v2, va, vb, t1, ca, pair_bytes, Bool.or_true, ge_iff_le]
   · simp only [go_sem, iter_eq, List.flatten_cons, List.flatten_nil, v1, v2, va, vb, t1, ca, pair_bytes, Bool.or_false, ge_iff_le]
 · by_cases ca : 0 ≤ ltr R
   · simp only [go_sem, iter_eq, List.flatten_cons, List.flatten_nil, v1, v2, va, vb, t2, ca, pair_bytes, Bool.or_true, ge_iff_le]
   · simp only [go_sem, iter_eq, List.flatten_cons, List.flatten_nil, v1, v2, va, vb, t2, ca, pair_bytes, Bool.or_false, ge_iff_le]
 · simp only [go_sem, iter_eq, List.flatten_cons, List.flatten_nil, v1, v2, va, vb, pair_bytes, Bool.true_or]
end Go.Ev
namespace Go.Ev
open Go Go.Proofs
set_option maxRecDepth 10000
set_option maxHeartbeats 4000000

theorem r47 (l : List Int) (hl : l.length ≤ 1048576) (t lv : Nat) (o : List (Nat → Option Ob)) (hc : Cur l t lv o) : ∃ (x : Int) (ob : Ob), 0 ≤ x ∧ x ≤ 255 ∧ Cur l t lv (setIn t ob lv o) ∧ run EE 47 [.ptr lv t 0] o = some (.int .i64 x, setIn t ob lv o) := by
 obtain ⟨i, h, hi, ho⟩ := hc
 have hlt := obIn_len ho
 have hne : ¬ lv = o.length := by omega
 have hs : ∀ ob, obIn t lv (setIn t ob lv o) = some ob := fun ob => by rw [obIn_set2 _ _ _ _ _ _ hlt, if_pos ⟨rfl, rfl⟩]
 have wi := wrap_nat (n := i) (by omega)
 unfold cur at ho
 suffices main : ∀ RES, (if i < l.length then some (V.int .i64 (and64 (IntKind.i64.wrap (rawX (nextH h) + IntKind.i64.wrap (l.getD i 0))) 255), setIn t (cur l (i + 1) (nextH h)) lv o) else some (V.int .i64 (rawX (nextH h)), setIn t (cur l i (nextH h)) lv o)) = RES → run EE 47 [.ptr lv t 0] o = RES by
   have := main _ rfl
   by_cases hh : i < l.length
   · rw [if_pos hh] at this
     exact ⟨_, _, (and255 _).1, (and255 _).2, ⟨i + 1, nextH h, hh, hs _⟩, this⟩
   · rw [if_neg hh] at this
     exact ⟨_, _, (and255 _).1, (and255 _).2, ⟨i, nextH h, hi, hs _⟩, this⟩
 intro RES hRES
 unfold rawX nextH at hRES
 rw [run_eq EE 47 _ _ Try.func47 (by decide +kernel) rfl (show 1 ≤ _ by decide)]
 dsimp only [Try.f47]
 simp only [go_sem, ↓arith_and64, ↓arith_xor64, ho, hne, hs, setIn_len, setIn_setIn]
 generalize IntKind.i64.wrap (IntKind.i64.wrap (h * 6364136223846793005) + 1442695040888963407) = h' at hRES ⊢
 rw [q_drs]
 rotate_left
 · kernel_rfl
 simp only [go_sem, ↓arith_and64, ↓arith_xor64, ho, hne, hs, setIn_len, setIn_setIn]
 generalize and64 (xor64 (h'.fdiv (2 ^ min 33 64)) (h'.fdiv (2 ^ min 45 64))) 255 = x at hRES ⊢
 refine (show ∀ T : Nat → V, T 0 = V.ptr lv t 0 → T 3 = V.int .i64 x → lim EE _ { t := T, b := n0, o := _, r := _, f := _, n := _ } = RES from ?_) _ rfl rfl
 intro T h0 h3
 rw [q_drs]
 rotate_left
 · kernel_rfl
 by_cases hh : i < l.length
 · have k1 : (i : Int) < l.length := by omega
   rw [if_pos hh] at hRES
   simp only [go_sem, ↓arith_and64, ↓arith_xor64, ho, hne, hs, setIn_len, setIn_setIn, List.length_map, k1, h0, h3]
   rw [q_drs]
   rotate_left
   · kernel_rfl
   simp only [go_sem, ↓arith_and64, ↓arith_xor64, ho, hne, hs, setIn_len, setIn_setIn, List.length_map, k1, h0, h3, getD_U8 _ hh, wi]
   exact hRES
 · have k1 : ¬ (i : Int) < l.length := by omega
   rw [if_neg hh] at hRES
   simp only [go_sem, ↓arith_and64, ↓arith_xor64, ho, hne, hs, setIn_len, setIn_setIn, List.length_map, k1, h0, h3]
   exact hRES
theorem r34 (n : Int) (h1 : 0 < n) (h2 : n ≤ 256) (l : List Int) (hl : l.length ≤ 1048576) (t lv : Nat) (o : List (Nat → Option Ob)) (hc : Cur l t lv o) : ∃ (x : Int) (ob : Ob), 0 ≤ x ∧ x < n ∧ Cur l t lv (setIn t ob lv o) ∧ run EE 34 [.ptr lv t 0, .int .i64 n] o = some (.int .i64 x, setIn t ob lv o) := by
 have hlt := let ⟨_, _, _, ho⟩ := hc; obIn_len ho
 have hne : ¬ lv = o.length := by omega
 have hc' : Cur l t lv (n0 :: o) := by
   obtain ⟨i, h, hi, ho⟩ := hc
   exact ⟨i, h, hi, by show (if lv = o.length then _ else obIn t lv o) = _; rw [if_neg hne]; exact ho⟩
 obtain ⟨x, ob, x0, x1, hc2, hr⟩ := r47 l hl t lv _ hc'
 have e : setIn t ob lv (n0 :: o) = n0 :: setIn t ob lv o := by rw [setIn_cons, if_neg hne]
 rw [e] at hr
 obtain ⟨r0, r1⟩ := rem_below x0 h1
 refine ⟨x.tmod n, ob, r0, r1, ?_, ?_⟩
 · obtain ⟨i, h, hi, ho⟩ := hc2
   rw [e] at ho
   refine ⟨i, h, hi, ?_⟩
   have : (if lv = (setIn t ob lv o).length then n0 t else obIn t lv (setIn t ob lv o)) = _ := ho
   rw [setIn_len, if_neg hne] at this
   exact this
 have k1 : ¬ n ≤ 0 := by omega
 have k2 : ¬ n = 0 := by omega
 rw [run_eq EE 34 _ _ Try.func34 (by decide +kernel) rfl (show 2 ≤ _ by decide)]
 dsimp only [Try.f34]
 simp only [go_sem, k1, k2, h2, hne, hr]
end Go.Ev
namespace Go.Ev
open Go Go.Proofs
set_option maxRecDepth 10000
set_option maxHeartbeats 4000000

theorem dBelow (n : Int) (h1 : 0 < n) (h2 : n ≤ 256) (l : List Int) (hl : l.length ≤ 1048576) (t lv : Nat) : Draws EE 34 [.int .i64 n] l t lv fun v => ∃ x : Int, 0 ≤ x ∧ x < n ∧ v = .int .i64 x := by
 intro o ho
 obtain ⟨x, ob, h3, h4, h5, h6⟩ := r34 n h1 h2 l hl t lv o ho
 exact ⟨_, ob, ⟨x, h3, h4, rfl⟩, h5, h6⟩
theorem dPick (ws : List ByteArray) (h1 : 0 < ws.length) (h2 : ws.length ≤ 256) (l : List Int) (hl : l.length ≤ 1048576) (t lv : Nat) : Draws EE 48 [.slc false 1 (ws.map V.str)] l t lv fun v => ∃ w ∈ ws, v = .str w := by
 refine Draws.mk fun o hc hlt Q hQ => ?_
 have hne : ¬ lv = o.length := by omega
 obtain ⟨_, ob, ⟨x, x0, x1, rfl⟩, hc2, hr⟩ := (dBelow (ws.length : Int) (by omega) (by omega) l hl t lv).at0 hc n0
 obtain ⟨n, rfl⟩ : ∃ n : Nat, x = n := ⟨x.toNat, by omega⟩
 have hn : n < ws.length := by omega
 have k0 : (0 : Int) ≤ n := by omega
 rw [run_eq EE 48 _ _ Try.func48 (by decide +kernel) rfl (show 2 ≤ _ by decide)]
 dsimp only [Try.f48]
 simp only [go_sem, List.length_map, hr, k0, x1, getD_str hn, toNat_cast]
 exact hQ _ _ ⟨_, List.getElem_mem hn, rfl⟩ hc2
theorem dTerm (most : Nat) (hm : most < 256) (vars : ByteArray) (hv : vars.size ≤ 9223372036854775806) (l : List Int) (hl : l.length ≤ 1048576) (t lv : Nat) : Draws EE 35 [.int .i64 most, .str vars] l t lv fun v => ∃ s : ByteArray, s.size ≤ most ∧ v = .str s := by
 refine Draws.mk fun o hc hlt Q hQ => ?_
 have hne : ¬ lv = o.length := by omega
 have w1 := wrap_nat (n := most) (by omega)
 obtain ⟨_, ob, ⟨x, x0, x1, rfl⟩, hc2, hr⟩ := (dBelow ((most + 1 : Nat) : Int) (by omega) (by omega) l hl t lv).at0 hc n0
 obtain ⟨n, rfl⟩ : ∃ n : Nat, x = n := ⟨x.toNat, by omega⟩
 have hn : n ≤ most := by omega
 rw [run_eq EE 35 _ _ Try.func35 (by decide +kernel) rfl (show 3 ≤ _ by decide)]
 dsimp only [Try.f35]
 simp only [go_sem, w1, hr, hne, setIn_len]
 refine iter_ex (fun x : Nat × ByteArray × Ob => x.1 ≤ n ∧ x.2.1.size ≤ x.1 ∧ Cur l t lv (setIn t x.2.2 lv o)) (fun x => { t := upd (upd (upd (upd (upd e0 9 (.int .i64 (x.1 : Int))) 8 (.int .i64 (n : Int))) 7 (.str x.2.1)) 2 (.str vars)) 0 (.ptr lv t 0), b := n0, o := setIn t x.2.2 lv o, r := #[ResultVar.tmp 6], f := 35, n := 45 }) Q (fun x => n - x.1) ?_ (0, ⟨#[]⟩, ob) ⟨Nat.zero_le _, Nat.le_refl _, hc2⟩
 rintro ⟨k, out, ob⟩ ⟨hk, hs, hc⟩ ih
 dsimp only at hk hs hc ⊢
 by_cases hh : k < n
 rotate_left
 · have k1 : ¬ (k : Int) < n := by omega
   simp only [go_sem, k1]
   exact hQ _ _ ⟨out, by omega, rfl⟩ hc
 have k1 : (k : Int) < n := by omega
 have wk := wrap_nat (n := k) (by omega)
 obtain ⟨_, ob2, ⟨w, hw, rfl⟩, hc2, hr⟩ := (dPick [⟨#[97]⟩, ⟨#[98]⟩, ⟨#[88]⟩, ⟨#[89]⟩, ⟨#[88]⟩, ⟨#[97]⟩, ⟨#[90]⟩] (by decide) (by decide) l hl t lv).at hc n0
 have hz : w.size = 1 := by
   simp only [List.mem_cons, List.not_mem_nil, or_false] at hw
   rcases hw with rfl | rfl | rfl | rfl | rfl | rfl | rfl <;> rfl
 have hz1 : (0 : Int) < w.size := by omega
 have ihn : ∀ out' : ByteArray, out'.size ≤ k + 1 → _ := fun out' h => ih (k + 1, out', ob2) ⟨hh, h, hc2⟩ (by show n - (k + 1) < n - k; omega)
 have ihn' := ihn out (by omega)
 have ihw := ihn (out ++ w) (by rw [ByteArray.size_append]; omega)
 have q1 := r45 vars (bt w 0) hv
 have q2 := r45 out (bt w 0) (by omega)
 have q3 : ¬ ((out.size + w.size : Nat) : Int) > 9223372036854775807 := by omega
 simp only [List.map_cons, List.map_nil] at hr
 dsimp only at ihn' ihw
 have q4 := r49 (bt w 0)
 by_cases g1 : ltr (bt w 0) ≥ 0
 · simp only [go_sem, k1, hr, hne, setIn_len, hz1, q1, q2, q3, q4, g1, wk]
   exact ihw
 by_cases g2 : (cntB (bt w 0) vars 0 : Int) > 0
 rotate_left
 · simp only [go_sem, k1, hr, hne, setIn_len, hz1, q1, q2, q3, q4, g1, g2, wk]
   exact ihn'
 by_cases g3 : (cntB (bt w 0) out 0 : Int) < 2
 · simp only [go_sem, k1, hr, hne, setIn_len, hz1, q1, q2, q3, q4, g1, g2, g3, wk]
   exact ihw
 · simp only [go_sem, k1, hr, hne, setIn_len, hz1, q1, q2, q3, q4, g1, g2, g3, wk]
   exact ihn'
end Go.Ev
namespace Go.Ev
open Go Go.Proofs
set_option maxRecDepth 10000
set_option maxHeartbeats 4000000

theorem repl_one (f : Nat → ByteArray) (s : ByteArray) (hf : ∀ i, i < s.size → (f i).size = 1) : ∀ (n i : Nat) (out : ByteArray), s.size - i ≤ n → (repl f s i out).size ≤ out.size + (s.size - i) := by
 intro n
 induction n with
 | zero => intro i out hi; rw [repl_end (by omega)]; omega
 | succ n ih =>
   intro i out hi
   by_cases h : i < s.size
   · rw [repl_next h]
     split
     · show (0 : Nat) ≤ _; omega
     · have := ih (i + 1) (out ++ f i) (by omega)
       rw [ByteArray.size_append, hf i h] at this
       omega
   · rw [repl_end h]; omega
theorem repV_one (s : ByteArray) (c : Int) (b : ByteArray) (hb : b.size = 1) : (repV s c b).size ≤ s.size := by
 have := repl_one (fun i => if bt s i = c then b else one s i) s (fun i hi => by show (if bt s i = c then b else one s i).size = 1; split; exact hb; exact one_size s i hi) s.size 0 ⟨#[]⟩ (by omega)
 have e : (ByteArray.mk #[]).size = 0 := rfl
 unfold repV
 omega
theorem dAny8 (l : List Int) (hl : l.length ≤ 1048576) (t lv : Nat) : Draws EE 36 [] l t lv fun v => ∃ s : ByteArray, s.size ≤ 30 ∧ v = .str s := by
 refine Draws.mk fun o hc hlt Q hQ => ?_
 have hne : ¬ lv = o.length := by omega
 obtain ⟨_, ob, ⟨x, hx, rfl⟩, hc2, hr⟩ := (dTerm 6 (by decide) ⟨#[88, 89, 90]⟩ (by decide) l hl t lv).at0 hc n0
 obtain ⟨_, ob2, ⟨w, hw, rfl⟩, hc3, hr2⟩ := (dPick [⟨#[]⟩, ⟨#[97, 88, 98]⟩, ⟨#[88, 88]⟩, ⟨#[87]⟩, ⟨#[90, 89, 88]⟩, ⟨#[97, 97, 97, 97, 97, 97, 97, 97, 97, 97, 97, 97]⟩, ⟨#[97, 97, 97, 97, 97, 97, 97, 97, 97, 97, 97, 97, 88]⟩, ⟨#[120]⟩, x] (by simp) (by simp) l hl t lv).at hc2 n0
 have hz : w.size ≤ 30 := by
   simp only [List.mem_cons, List.not_mem_nil, or_false] at hw
   rcases hw with rfl | rfl | rfl | rfl | rfl | rfl | rfl | rfl | rfl <;> first | omega | decide
 simp only [List.map_cons, List.map_nil] at hr2
 have hr' : run EE 35 [.ptr lv t 0, .int .i64 6, .str ⟨#[88, 89, 90]⟩] (n0 :: o) = _ := hr
 rw [run_eq EE 36 _ _ Try.func36 (by decide +kernel) rfl (show 1 ≤ _ by decide)]
 dsimp only [Try.f36]
 simp only [go_sem, hr', hr2, hne, setIn_len]
 exact hQ _ _ ⟨w, hz, rfl⟩ hc3
theorem dEqu (l : List Int) (hl : l.length ≤ 1048576) (t lv : Nat) : Draws EE 33 [] l t lv fun v => ∃ e : Equ, e.left.size ≤ 5 ∧ e.right.size ≤ 5 ∧ v = e.enc := by
 refine Draws.mk fun o hc hlt Q hQ => ?_
 have hne : ¬ lv = o.length := by omega
 obtain ⟨_, ob, ⟨a, ha, rfl⟩, hc2, hr⟩ := (dTerm 5 (by decide) ⟨#[88, 89, 90]⟩ (by decide) l hl t lv).at0 hc (upd n0 2 (some (Ob.box [.str ⟨#[]⟩, .str ⟨#[]⟩])))
 have hr' : run EE 35 [.ptr lv t 0, .int .i64 5, .str ⟨#[88, 89, 90]⟩] (upd n0 2 (some (Ob.box [.str ⟨#[]⟩, .str ⟨#[]⟩])) :: o) = _ := hr
 rw [run_eq EE 33 _ _ Try.func33 (by decide +kernel) rfl (show 1 ≤ _ by decide)]
 dsimp only [Try.f33]
 simp only [go_sem, hr', hne, setIn_len]
 refine iter_ex (fun x : Nat × ByteArray => x.1 ≤ 3 ∧ x.2.size ≤ x.1) (fun x => { t := upd (upd (upd (upd (upd e0 5 (.int .i64 (x.1 : Int))) 4 (.str x.2)) 3 (.str a)) 2 (.ptr o.length 2 0)) 0 (.ptr lv t 0), b := upd n0 2 (some (Ob.box [.str ⟨#[]⟩, .str ⟨#[]⟩])), o := setIn t ob lv o, r := #[ResultVar.cell 2 25], f := 33, n := 46 }) Q (fun x => 3 - x.1) ?_ (0, ⟨#[]⟩) ⟨Nat.zero_le _, Nat.le_refl _⟩
 rintro ⟨k, rest⟩ ⟨hk, hs⟩ ih
 dsimp only at hk hs ⊢
 by_cases hh : k < 3
 · have k1 : (k : Int) < 3 := by omega
   have k0 : (0 : Int) ≤ k := by omega
   have e3 : (ByteArray.mk #[88, 89, 90]).size = 3 := rfl
   have k2 : (k : Int) < (ByteArray.mk #[88, 89, 90]).size := by rw [e3]; omega
   have k3 : ((k + 1 : Nat) : Int) ≤ (ByteArray.mk #[88, 89, 90]).size := by rw [e3]; omega
   have k4 : (k : Int) ≤ ((k + 1 : Nat) : Int) := by omega
   have wk := wrap_nat (n := k) (by omega)
   have q1 := r45 a (bt ⟨#[88, 89, 90]⟩ k) (by omega)
   have hz : (ByteArray.extract ⟨#[88, 89, 90]⟩ k (k + 1)).size ≤ 1 := by
     rw [ByteArray.size_extract]; omega
   have q3 : ¬ ((rest.size + (ByteArray.extract ⟨#[88, 89, 90]⟩ k (k + 1)).size : Nat) : Int) > 9223372036854775807 := by omega
   have ih1 := ih (k + 1, rest) ⟨hh, by show rest.size ≤ k + 1; omega⟩ (by show 3 - (k + 1) < 3 - k; omega)
   have ih2 := ih (k + 1, rest ++ ByteArray.extract ⟨#[88, 89, 90]⟩ k (k + 1)) ⟨hh, by rw [ByteArray.size_append]; show _ ≤ k + 1; omega⟩ (by show 3 - (k + 1) < 3 - k; omega)
   dsimp only at ih1 ih2
   by_cases g : (cntB (bt ⟨#[88, 89, 90]⟩ k) a 0 : Int) < 2
   · simp only [go_sem, k1, hne, setIn_len, q1, g, wk, k0, k2, k3, k4, q3, false_and]
     exact ih2
   · simp only [go_sem, k1, hne, setIn_len, q1, g, wk, k0, k2, false_and]
     exact ih1
 have k1 : ¬ (k : Int) < 3 := by omega
 obtain ⟨_, ob3, ⟨b, hb, rfl⟩, hc3, hr2⟩ := (dTerm 5 (by decide) rest (by omega) l hl t lv).at hc2 (upd n0 2 (some (Ob.box [.str ⟨#[]⟩, .str ⟨#[]⟩])))
 have hr3 : run EE 35 [.ptr lv t 0, .int .i64 5, .str rest] (upd n0 2 (some (Ob.box [.str ⟨#[]⟩, .str ⟨#[]⟩])) :: setIn t ob lv o) = _ := hr2
 simp only [go_sem, k1, hne, setIn_len, hr3]
 refine iter_ex (fun x : Nat × ByteArray => x.1 ≤ 3 ∧ x.2.size ≤ 5) (fun x => { t := upd (upd (upd (upd e0 7 (.int .i64 (x.1 : Int))) 6 (.str x.2)) 3 (.str a)) 2 (.ptr o.length 2 0), b := upd n0 2 (some (Ob.box [.str ⟨#[]⟩, .str ⟨#[]⟩])), o := setIn t ob3 lv o, r := #[ResultVar.cell 2 25], f := 33, n := 46 }) Q (fun x => 3 - x.1) ?_ (0, b) ⟨Nat.zero_le _, hb⟩
 rintro ⟨k, b⟩ ⟨hk, hs⟩ ih
 dsimp only at hk hs ⊢
 by_cases hh : k < 3
 · have k1 : (k : Int) < 3 := by omega
   have k0 : (0 : Int) ≤ k := by omega
   have e3 : (ByteArray.mk #[88, 89, 90]).size = 3 := rfl
   have k2 : (k : Int) < (ByteArray.mk #[88, 89, 90]).size := by rw [e3]; omega
   have wk := wrap_nat (n := k) (by omega)
   have hz : (a ++ b).size ≤ 10 := by rw [ByteArray.size_append]; omega
   have q0 : ¬ ((a.size + b.size : Nat) : Int) > 9223372036854775807 := by omega
   have q1 := r45 (a ++ b) (bt ⟨#[88, 89, 90]⟩ k) (by omega)
   have q2 := r46 b (bt ⟨#[88, 89, 90]⟩ k) ⟨#[97]⟩ (by omega) (by decide)
   have hr := repV_one b (bt ⟨#[88, 89, 90]⟩ k) ⟨#[97]⟩ rfl
   have ih1 := ih (k + 1, b) ⟨hh, hs⟩ (by show 3 - (k + 1) < 3 - k; omega)
   have ih2 := ih (k + 1, repV b (bt ⟨#[88, 89, 90]⟩ k) ⟨#[97]⟩) ⟨hh, by show (repV b _ _).size ≤ 5; omega⟩ (by show 3 - (k + 1) < 3 - k; omega)
   dsimp only at ih1 ih2
   by_cases g : (cntB (bt ⟨#[88, 89, 90]⟩ k) (a ++ b) 0 : Int) > 2
   · simp only [go_sem, k1, hne, setIn_len, q0, q1, q2, g, wk, k0, k2, false_and]
     exact ih2
   · simp only [go_sem, k1, hne, setIn_len, q0, q1, g, wk, k0, k2, false_and]
     exact ih1
 have k1 : ¬ (k : Int) < 3 := by omega
 simp only [go_sem, k1, hne, setIn_len]
 exact hQ _ _ ⟨⟨a, b⟩, ha, hs, rfl⟩ hc3
theorem dBent (l : List Int) (hl : l.length ≤ 1048576) (t lv : Nat) : Draws EE 15 [] l t lv fun v => ∃ e : Equ, e.left.size ≤ 100 ∧ e.right.size ≤ 100 ∧ v = e.enc := by
 refine Draws.mk fun o hc hlt Q hQ => ?_
 have hne : ¬ lv = o.length := by omega
 obtain ⟨_, ob, ⟨e, ha, hb, rfl⟩, hc2, hr⟩ := (dEqu l hl t lv).at0 hc (upd n0 2 (some (Ob.box [.str ⟨#[]⟩, .str ⟨#[]⟩])))
 have hr' : run EE 33 [.ptr lv t 0] (upd n0 2 (some (Ob.box [.str ⟨#[]⟩, .str ⟨#[]⟩])) :: o) = _ := hr
 obtain ⟨_, ob2, ⟨x, x0, x1, rfl⟩, hc3, hr2⟩ := (dBelow 10 (by decide) (by decide) l hl t lv).at hc2 (upd (upd (upd n0 2 (some (Ob.box [.str ⟨#[]⟩, .str ⟨#[]⟩]))) 3 (some (Ob.box [.str ⟨#[]⟩, .str ⟨#[]⟩]))) 3 (some (Ob.box [.str e.left, .str e.right])))
 have hr3 : run EE 34 [.ptr lv t 0, .int .i64 10] (upd (upd (upd n0 2 (some (Ob.box [.str ⟨#[]⟩, .str ⟨#[]⟩]))) 3 (some (Ob.box [.str ⟨#[]⟩, .str ⟨#[]⟩]))) 3 (some (Ob.box [.str e.left, .str e.right])) :: setIn t ob lv o) = _ := hr2
 rw [run_eq EE 15 _ _ Try.func15 (by decide +kernel) rfl (show 1 ≤ _ by decide)]
 dsimp only [Try.f15]
 simp only [go_sem, hr', hr3, hne, setIn_len]
 by_cases g0 : x = 0
 · subst g0
   obtain ⟨_, ob4, ⟨b, hb4, rfl⟩, hc4, hr4⟩ := (dTerm 3 (by decide) ⟨#[88, 89, 90]⟩ (by decide) l hl t lv).at hc3 (upd (upd (upd n0 2 (some (Ob.box [.str ⟨#[]⟩, .str ⟨#[]⟩]))) 3 (some (Ob.box [.str ⟨#[]⟩, .str ⟨#[]⟩]))) 3 (some (Ob.box [.str e.left, .str e.right])))
   have hr5 : run EE 35 [.ptr lv t 0, .int .i64 3, .str ⟨#[88, 89, 90]⟩] (upd (upd (upd n0 2 (some (Ob.box [.str ⟨#[]⟩, .str ⟨#[]⟩]))) 3 (some (Ob.box [.str ⟨#[]⟩, .str ⟨#[]⟩]))) 3 (some (Ob.box [.str e.left, .str e.right])) :: setIn t ob2 lv o) = _ := hr4
   have z1 : (e.left ++ ByteArray.mk #[35]).size = e.left.size + 1 := ByteArray.size_append
   have z2 : (e.left ++ ByteArray.mk #[35] ++ b).size = e.left.size + 1 + b.size := by rw [ByteArray.size_append, z1]
   have z3 : ¬ ((e.left.size + (ByteArray.mk #[35]).size : Nat) : Int) > 9223372036854775807 := by show ¬ ((e.left.size + 1 : Nat) : Int) > _; omega
   have z4 : ¬ (((e.left ++ ByteArray.mk #[35]).size + b.size : Nat) : Int) > 9223372036854775807 := by rw [z1]; omega
   simp only [go_sem]
   rw [q_drawn]
   rotate_left
   · kernel_rfl
   simp only [go_sem, hne, setIn_len, still, hr5, z3, z4, eq_self]
   refine ifQ ?_ ?_
   · rw [Bool.or_eq_true]
     left
     kernel_rfl
   exact hQ _ _ ⟨⟨_, e.right⟩, by show (e.left ++ ByteArray.mk #[35] ++ b).size ≤ 100; omega, by show e.right.size ≤ 100; omega, rfl⟩ hc4
 by_cases g1 : x = 1
 · subst g1
   obtain ⟨_, ob4, ⟨b, hb4, rfl⟩, hc4, hr4⟩ := (dAny8 l hl t lv).at hc3 (upd (upd (upd n0 2 (some (Ob.box [.str ⟨#[]⟩, .str ⟨#[]⟩]))) 3 (some (Ob.box [.str ⟨#[]⟩, .str ⟨#[]⟩]))) 3 (some (Ob.box [.str e.left, .str e.right])))
   simp only [go_sem, hne, setIn_len, hr4]
   exact hQ _ _ ⟨⟨e.left, b⟩, by show e.left.size ≤ 100; omega, by show b.size ≤ 100; omega, rfl⟩ hc4
 by_cases g2 : x = 2
 · subst g2
   have z1 : (ByteArray.mk #[97, 97, 97, 97, 97, 97, 97, 97, 97, 97, 97, 97, 97, 97, 97, 97, 97, 97, 97, 97, 97, 97, 97, 97] ++ e.left).size = 24 + e.left.size := ByteArray.size_append
   have z3 : ¬ (((ByteArray.mk #[97, 97, 97, 97, 97, 97, 97, 97, 97, 97, 97, 97, 97, 97, 97, 97, 97, 97, 97, 97, 97, 97, 97, 97]).size + e.left.size : Nat) : Int) > 9223372036854775807 := by show ¬ ((24 + e.left.size : Nat) : Int) > _; omega
   simp only [go_sem, hne, setIn_len, z3]
   exact hQ _ _ ⟨⟨_, e.right⟩, by show (ByteArray.mk _ ++ e.left).size ≤ 100; omega, by show e.right.size ≤ 100; omega, rfl⟩ hc3
 by_cases g3 : x = 3
 · subst g3
   have z1 : (ByteArray.mk #[35] ++ e.left).size = 1 + e.left.size := ByteArray.size_append
   have z2 : (ByteArray.mk #[35, 97] ++ e.right).size = 2 + e.right.size := ByteArray.size_append
   have z3 : ¬ (((ByteArray.mk #[35]).size + e.left.size : Nat) : Int) > 9223372036854775807 := by show ¬ ((1 + e.left.size : Nat) : Int) > _; omega
   have z4 : ¬ (((ByteArray.mk #[35, 97]).size + e.right.size : Nat) : Int) > 9223372036854775807 := by show ¬ ((2 + e.right.size : Nat) : Int) > _; omega
   simp only [go_sem, hne, setIn_len, z3, z4]
   exact hQ _ _ ⟨⟨_, _⟩, by show (ByteArray.mk _ ++ e.left).size ≤ 100; omega, by show (ByteArray.mk _ ++ e.right).size ≤ 100; omega, rfl⟩ hc3
 have b0 : (x == 0) = false := by simpa using g0
 have b1 : (x == 1) = false := by simpa using g1
 have b2 : (x == 2) = false := by simpa using g2
 have b3 : (x == 3) = false := by simpa using g3
 simp only [go_sem, hne, setIn_len, b0, b1, b2, b3]
 exact hQ _ _ ⟨e, by omega, by omega, rfl⟩ hc3
theorem r16 (l : List Int) (hl : l.length ≤ 1048576) : ∃ h : Int, run EE 16 [.slc false 1 (l.map U8)] [] = some (.nw [.slc false 1 (l.map U8), .int .i64 0, .int .i64 h], []) := by
 suffices H : ∀ Q : Rs → Prop, (∀ h : Int, Q (some (.nw [.slc false 1 (l.map U8), .int .i64 0, .int .i64 h], []))) → Q (run EE 16 [.slc false 1 (l.map U8)] []) from
   H (fun r => ∃ h : Int, r = some (.nw [.slc false 1 (l.map U8), .int .i64 0, .int .i64 h], [])) fun h => ⟨h, rfl⟩
 intro Q hQ
 rw [run_eq EE 16 _ _ Try.func16 (by decide +kernel) rfl (show 1 ≤ _ by decide)]
 dsimp only [Try.f16]
 simp only [go_sem, List.length_map]
 refine iter_ex (fun x : Nat × Int => x.1 ≤ l.length) (fun x => { t := upd (upd (upd e0 4 (.int .i64 (x.1 : Int))) 3 (.int .i64 x.2)) 0 (.slc false 1 (l.map U8)), b := n0, o := [], r := #[ResultVar.tmp 2], f := 16, n := 32 }) Q (fun x => l.length - x.1) ?_ (0, IntKind.i64.wrap (26583 + (l.length : Int))) (Nat.zero_le _)
 rintro ⟨k, h⟩ hk ih
 dsimp only at hk ⊢
 have fin : Q (some (.nw [.slc false 1 (l.map U8), .int .i64 0, .int .i64 h], [])) := hQ h
 by_cases hh : k < l.length
 rotate_left
 · have k1 : ¬ (k : Int) < l.length := by omega
   simp only [go_sem, List.length_map, k1]
   exact fin
 have k1 : (k : Int) < l.length := by omega
 have k0 : (0 : Int) ≤ k := by omega
 have wk := wrap_nat (n := k) (by omega)
 by_cases h4 : (k : Int) < 4000
 rotate_left
 · simp only [go_sem, List.length_map, k1, h4]
   exact fin
 have ihn := fun h' => ih (k + 1, h') hh (by show l.length - (k + 1) < l.length - k; omega)
 dsimp only at ihn
 simp only [go_sem, ↓arith_and64, List.length_map, k1, k0, h4, getD_U8 _ hh, wk, toNat_cast]
 exact ihn _
theorem r5 (l : List Int) (hl : l.length ≤ 1048576) : ∃ e : Equ, e.left.size ≤ 100 ∧ e.right.size ≤ 100 ∧ run EE 5 [.slc false 1 (l.map U8)] [] = some (e.enc, []) := by
 suffices H : ∀ Q : Rs → Prop, (∀ e : Equ, e.left.size ≤ 100 → e.right.size ≤ 100 → Q (some (e.enc, []))) → Q (run EE 5 [.slc false 1 (l.map U8)] []) from
   H (fun r => ∃ e : Equ, e.left.size ≤ 100 ∧ e.right.size ≤ 100 ∧ r = some (e.enc, [])) fun e h1 h2 => ⟨e, h1, h2, rfl⟩
 intro Q hQ
 obtain ⟨h, hn⟩ := r16 l hl
 obtain ⟨_, ob, ⟨e, h1, h2, rfl⟩, hc, hr⟩ := dBent l hl 4 0 [upd (upd n0 2 (some (Ob.box [.str ⟨#[]⟩, .str ⟨#[]⟩]))) 4 (some (Ob.box [.slc false 1 (l.map U8), .int .i64 0, .int .i64 h]))] ⟨0, h, Nat.zero_le _, rfl⟩
 have e1 : setIn 4 ob 0 [upd (upd n0 2 (some (Ob.box [.str ⟨#[]⟩, .str ⟨#[]⟩]))) 4 (some (Ob.box [.slc false 1 (l.map U8), .int .i64 0, .int .i64 h]))] = [upd (upd (upd n0 2 (some (Ob.box [.str ⟨#[]⟩, .str ⟨#[]⟩]))) 4 (some (Ob.box [.slc false 1 (l.map U8), .int .i64 0, .int .i64 h]))) 4 (some ob)] := rfl
 rw [e1] at hr
 rw [run_eq EE 5 _ _ Try.func5 (by decide +kernel) rfl (show 1 ≤ _ by decide)]
 dsimp only [Try.f5]
 simp only [go_sem, hn, hr]
 exact hQ e h1 h2
end Go.Ev
