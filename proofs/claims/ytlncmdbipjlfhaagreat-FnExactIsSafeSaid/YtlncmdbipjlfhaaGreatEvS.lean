/- What the evaluator is told of the functions, printed by a program. Searches. Leaves: letters, ranges. Automata: validity. Automata: the reference's validity, searches in lists. Automata: the reference's classes. Automata: the reference's classes, by refinement. -/
import Derived.Test.YtlncmdbipjlfhaaGreatEvR
import Derived.Test.YtlncmdbipjlfhaaGreatEvN
set_option linter.unusedVariables false
set_option linter.unusedSimpArgs false
namespace Go.Ev
open Go Go.Proofs
def hints : List (Nat × Hint) := [(3, ⟨[19, 27, 73], [], [], [], [], [], [], [], [], [], [], []⟩),
 (4, ⟨[16, 25], [], [], [], [], [], [], [], [], [], [], []⟩),
 (5, ⟨[4, 11], [], [], [], [], [], [], [], [], [], [], []⟩),
 (6, ⟨[24], [], [⟨0, [1, 2, 4, 5], [1, 2, 4]⟩], [], [], [], [32], [], [], [32], [], []⟩),
 (8, ⟨[32, 41, 50, 59, 65], [], [⟨0, [1, 2, 4, 5], [1, 2, 4]⟩], [], [], [], [37, 46, 55, 63, 70], [], [], [70], [], []⟩),
 (11, ⟨[4, 9], [], [], [], [], [], [], [], [], [], [], []⟩),
 (12, ⟨[4, 13], [], [], [], [], [], [], [], [], [], [], [8, 12]⟩),
 (13, ⟨[4, 17], [], [], [], [], [], [], [], [], [], [], [8, 14]⟩),
 (14, ⟨[2, 3, 9, 16, 23], [], [], [], [], [], [12], [], [], [], [], []⟩),
 (15, ⟨[2, 3, 9, 16, 23], [], [], [], [], [], [12], [], [], [], [], []⟩),
 (16, ⟨[4, 26], [], [⟨0, [0, 1, 5], []⟩], [], [], [], [], [], [], [], [], []⟩),
 (17, ⟨[2], [], [⟨0, [1, 3], [1]⟩], [], [], [], [], [], [], [], [], []⟩),
 (18, ⟨[5, 15, 24, 33, 42, 48, 56], [], [], [], [], [], [20, 29, 38, 46, 53], [], [], [53], [], []⟩),
 (19, ⟨[2, 22], [7], [⟨0, [0, 3, 4], [7]⟩], [], [], [], [], [], [], [], [], []⟩),
 (20, ⟨[2], [], [], [], [], [], [], [], [], [], [], []⟩),
 (22, ⟨[], [], [], [], [], [19], [], [], [], [], [], []⟩),
 (23, ⟨[27, 40], [], [⟨0, [1, 2, 4, 6, 22, 23], [2, 4, 6]⟩], [], [(7, [0, 2, 3, 4, 5, 6, 7, 8, 9, 10, 1, 11, 12, 13])], [41], [], [], [], [], [], []⟩),
 (24, ⟨[27], [], [⟨0, [2, 3, 4, 6, 22, 23], [2, 3, 4, 6]⟩], [], [(7, [0, 2, 3, 4, 5, 6, 7, 8, 9, 10, 11, 12, 13, 14, 15, 16, 17, 18, 1, 19, 20, 21])], [49], [], [], [], [], [], []⟩),
 (25, ⟨[3], [], [], [], [], [], [], [], [], [], [], []⟩),
 (26, ⟨[7, 28], [], [], [], [], [], [], [], [], [], [], []⟩),
 (27, ⟨[21], [], [⟨0, [2, 3, 14, 15, 16], [1, 2, 3]⟩], [], [], [], [], [], [], [], [], []⟩),
 (28, ⟨[], [], [⟨0, [0, 1, 5], []⟩], [], [], [], [], [], [], [], [], []⟩),
 (29, ⟨[], [], [⟨0, [0, 1, 5], []⟩], [], [], [], [], [], [], [], [], []⟩),
 (30, ⟨[], [], [⟨0, [0, 1, 5], []⟩], [], [], [], [], [], [], [], [], []⟩),
 (31, ⟨[4, 79], [], [⟨0, [0, 1, 5], []⟩], [], [], [], [], [], [], [], [], []⟩),
 (32, ⟨[4, 20], [], [⟨0, [0, 1, 5], []⟩], [], [], [], [], [], [], [], [], []⟩),
 (33, ⟨[4, 18], [], [⟨0, [0, 1, 5], []⟩], [], [], [], [], [], [], [], [], [17]⟩),
 (34, ⟨[4, 22], [], [⟨0, [0, 1, 5], []⟩], [], [], [], [], [], [], [], [], []⟩),
 (35, ⟨[4, 20], [], [⟨0, [0, 1, 5], []⟩], [], [], [], [], [], [], [], [], [17]⟩),
 (36, ⟨[2, 3, 9, 16, 17], [], [], [], [], [], [], [], [], [], [], []⟩),
 (37, ⟨[2, 3], [], [], [], [], [], [], [], [], [], [], []⟩),
 (38, ⟨[4, 24], [], [], [], [], [], [], [], [], [], [], []⟩),
 (39, ⟨[2, 49], [], [], [], [], [], [], [], [], [], [], []⟩),
 (40, ⟨[8], [], [], [], [], [20], [], [], [], [], [], []⟩),
 (41, ⟨[28], [6], [⟨0, [1, 2, 4, 6, 7], [2, 4, 6, 430, 431]⟩], [], [], [20], [], [], [], [], [45], []⟩),
 (42, ⟨[33], [6], [⟨0, [2, 3, 4, 6, 7], [2, 3, 4, 6, 439, 440]⟩, ⟨2, [2, 3, 4, 6, 7, 8], [2, 3, 4, 6, 439, 440]⟩], [], [], [21], [], [], [], [], [54], []⟩),
 (43, ⟨[3, 10, 16], [], [], [], [], [], [], [], [], [], [], []⟩),
 (44, ⟨[7, 10, 14, 88, 92, 125, 131, 136, 142], [], [⟨0, [2, 3, 4, 6, 8, 9, 10, 11], [3, 4, 6, 9]⟩, ⟨2, [2, 3, 4, 6, 8, 9, 10, 11, 12, 13, 14, 15], [3, 4, 6, 9]⟩], [], [], [], [], [], [], [], [], []⟩),
 (45, ⟨[24], [1000003], [⟨0, [2, 3, 4], [1, 2, 3, 217]⟩], [], [], [6], [], [], [], [], [], []⟩),
 (47, ⟨[4], [], [], [], [], [], [], [], [], [], [], []⟩),
 (48, ⟨[2], [], [], [], [], [], [], [], [], [], [], []⟩),
 (49, ⟨[2, 41], [], [], [], [], [], [], [], [], [], [], []⟩),
 (50, ⟨[2], [], [], [], [], [], [], [], [], [], [], []⟩),
 (51, ⟨[2], [], [], [], [], [], [], [], [], [], [], []⟩),
 (52, ⟨[5, 27, 33, 60, 72, 133, 167, 185, 210, 223, 236, 237, 242], [79, 99], [⟨0, [2, 4, 5, 6, 7], [2, 4, 38]⟩, ⟨2, [2, 4, 5, 6, 7, 54, 55, 56], [2, 4, 38]⟩, ⟨4, [2, 4, 5, 6, 12, 80, 81, 82], [2, 4, 38, 79]⟩, ⟨6, [2, 4, 5, 6, 12, 15], [2, 4, 38]⟩, ⟨8, [2, 4, 5, 6, 12, 15, 16, 17, 100, 101, 102], [2, 4, 38, 96, 99]⟩, ⟨10, [2, 4, 5, 6, 12, 15, 16, 17, 18, 20, 100, 101, 102, 116, 117, 118], [2, 4, 20, 38, 96, 99]⟩, ⟨12, [2, 4, 5, 6, 12, 25, 26, 27, 163, 164], [2, 4, 25, 38, 160]⟩, ⟨14, [2, 4, 5, 6, 12, 25, 26, 190, 191, 192], [2, 4, 25, 38, 160]⟩, ⟨16, [2, 4, 5, 6, 12, 25, 26, 32, 33, 190, 191, 192, 204, 205, 206], [2, 4, 25, 38, 160]⟩], [], [(61, [0, 2, 3, 4, 5, 6, 7, 8, 9, 10, 1, 11, 12, 13])], [220, 233], [], [], [], [238, 239], [], []⟩),
 (53, ⟨[6, 25], [], [⟨0, [1, 2, 3, 7], [3]⟩], [], [], [], [], [], [], [], [], []⟩),
 (54, ⟨[], [], [⟨0, [11, 12, 13], [1]⟩], [], [], [], [], [], [], [], [], []⟩),
 (55, ⟨[2], [], [], [], [], [], [], [], [], [], [], []⟩),
 (56, ⟨[3, 4, 17, 25], [], [⟨0, [1, 2, 4, 11, 12, 13], [1, 2]⟩], [], [], [], [], [], [], [], [], []⟩),
 (57, ⟨[9, 11, 15, 43, 56, 65, 71, 82, 88], [], [⟨0, [1, 2, 3, 8, 11, 12, 13, 14], [4, 8, 13, 22]⟩, ⟨2, [1, 2, 3, 8, 11, 12, 13, 14, 15, 33], [4, 8, 13, 22]⟩], [77], [(21, [0, 2, 3, 4, 5, 6, 7, 1, 8, 9, 10, 11])], [], [], [77], [], [], [], []⟩),
 (58, ⟨[5], [], [], [], [], [], [], [], [], [], [], []⟩),
 (59, ⟨[], [], [], [], [], [], [], [], [25], [], [], []⟩),
 (61, ⟨[], [], [⟨0, [0, 1, 5], []⟩], [], [], [], [], [], [], [], [], []⟩),
 (63, ⟨[2], [], [⟨0, [0, 3], []⟩], [], [], [], [], [], [], [], [], []⟩),
 (64, ⟨[4, 34], [], [⟨0, [0, 1, 5], []⟩], [], [], [], [], [], [], [], [], []⟩),
 (65, ⟨[4, 18], [], [⟨0, [0, 1, 5], []⟩], [], [], [], [], [], [], [], [], []⟩),
 (66, ⟨[4, 20], [], [⟨0, [0, 1, 5], []⟩], [], [], [], [], [], [], [], [], []⟩),
 (67, ⟨[], [], [⟨0, [1, 3, 4], [1]⟩, ⟨2, [1, 3, 4, 5], [1]⟩], [], [], [], [], [], [], [], [], []⟩),
 (68, ⟨[4, 6, 7, 49, 53], [], [⟨0, [1, 2, 6, 7, 8], [2]⟩, ⟨2, [1, 2, 6, 7, 8, 9], [2]⟩], [], [], [], [], [], [], [], [], []⟩),
 (69, ⟨[6, 8, 9, 48, 60, 64], [], [⟨0, [1, 2, 8, 9, 10, 11], [19]⟩, ⟨2, [1, 2, 8, 9, 10, 11, 38], [19]⟩], [], [], [], [], [], [], [], [], []⟩),
 (70, ⟨[3], [], [], [], [], [], [], [], [], [], [], []⟩),
 (71, ⟨[5], [], [], [], [], [], [], [], [], [], [], []⟩),
 (72, ⟨[4, 26], [], [], [], [], [], [], [], [], [], [], []⟩),
 (73, ⟨[4, 18], [], [], [], [], [], [], [], [], [], [], []⟩),
 (74, ⟨[2], [], [⟨0, [0, 3], []⟩], [], [], [], [], [], [], [], [], []⟩),
 (75, ⟨[2], [], [], [], [], [], [], [], [], [], [], []⟩),
 (76, ⟨[2], [], [], [], [], [], [], [], [], [], [], []⟩),
 (77, ⟨[6, 45], [], [⟨0, [2, 3, 8, 9], [3]⟩], [], [], [], [], [], [], [], [], []⟩),
 (78, ⟨[4, 7, 46, 50, 57, 70, 71, 75], [], [⟨0, [1, 2, 3, 4, 5, 6], [1, 2, 5]⟩, ⟨2, [1, 2, 3, 4, 5, 6, 7, 8], [1, 2, 5]⟩], [], [(15, [0, 2, 3, 4, 5, 6, 7, 8, 9, 10, 1, 11, 12, 13])], [55, 67], [], [], [], [72, 73], [], []⟩),
 (79, ⟨[7, 22, 38, 50], [], [⟨0, [1, 2, 4, 5, 6], [2, 4, 5]⟩, ⟨2, [1, 2, 4, 5, 6, 7, 8], [2, 4, 5]⟩], [], [(9, [1, 2, 3, 4, 5, 6, 7, 8, 9, 10, 11, 12, 13, 0, 14, 15]), (10, [0, 2, 3, 4, 5, 6, 7, 8, 9, 1, 10, 11, 12])], [], [], [], [], [], [], []⟩),
 (80, ⟨[18, 29], [], [⟨0, [1, 2, 3, 4], [1, 2, 3]⟩], [], [(5, [0, 2, 3, 4, 5, 6, 7, 8, 9, 1, 10, 11, 12])], [8, 25], [], [], [], [26, 27], [], []⟩),
 (81, ⟨[4, 44], [], [⟨0, [1, 2, 5, 6], [2]⟩], [], [], [], [], [], [], [], [], []⟩),
 (82, ⟨[2], [], [], [], [], [], [], [], [], [], [], []⟩),
 (83, ⟨[3, 16, 36, 42, 43, 57, 63, 72], [], [], [], [], [], [], [], [], [], [], []⟩),
 (84, ⟨[4, 18], [], [⟨0, [0, 1, 5], []⟩], [], [], [], [], [], [], [], [], []⟩),
 (86, ⟨[], [], [], [], [], [8], [], [], [], [], [], []⟩),
 (89, ⟨[4, 17], [], [⟨0, [0, 1, 7, 8], []⟩], [], [], [], [], [], [], [], [], []⟩),
 (90, ⟨[2], [], [], [], [], [], [], [], [], [], [], []⟩),
 (91, ⟨[6], [], [], [], [], [], [], [], [], [], [], []⟩),
 (92, ⟨[4], [], [], [], [], [], [], [], [], [], [], []⟩),
 (93, ⟨[3], [], [], [], [], [], [], [], [], [], [], []⟩),
 (94, ⟨[4], [], [], [], [], [], [], [], [], [], [], []⟩),
 (95, ⟨[3], [], [], [], [], [], [], [], [], [], [], []⟩),
 (96, ⟨[], [], [⟨0, [0, 3], []⟩], [], [], [], [], [], [], [], [], []⟩),
 (97, ⟨[2], [], [], [], [], [], [], [], [], [], [], []⟩),
 (98, ⟨[4], [], [⟨0, [1, 5, 36, 37, 38], [2]⟩], [], [], [], [], [], [], [], [], []⟩),
 (99, ⟨[39, 47], [26], [⟨0, [0, 2, 4, 5, 16, 17], [2, 5]⟩], [], [], [], [], [], [], [], [], []⟩),
 (100, ⟨[5, 20], [], [], [], [], [], [], [], [], [], [], []⟩),
 (101, ⟨[3, 11], [], [], [], [], [], [], [], [], [], [], []⟩),
 (104, ⟨[6], [], [], [], [], [], [], [], [], [], [], []⟩),
 (105, ⟨[4, 26], [], [⟨0, [0, 1, 5], []⟩], [], [], [], [], [], [], [], [], []⟩),
 (106, ⟨[2, 12], [], [⟨0, [0, 3], []⟩], [], [], [], [], [], [], [], [], []⟩),
 (107, ⟨[2], [], [], [], [], [], [], [], [], [], [], []⟩),
 (108, ⟨[2, 59], [14, 34], [⟨0, [1, 3, 4, 5], [1, 14]⟩, ⟨2, [1, 3, 4, 6], [1]⟩, ⟨4, [1, 3, 4, 6, 7, 8], [1, 34]⟩, ⟨6, [1, 3, 4, 6, 7, 8, 9], [1, 34]⟩], [], [], [], [], [], [], [], [], []⟩),
 (109, ⟨[4, 8, 12], [], [], [], [], [], [], [], [], [], [], []⟩),
 (110, ⟨[4, 26], [], [⟨0, [1, 2, 5], [2]⟩], [], [], [], [], [], [], [], [], []⟩),
 (111, ⟨[2], [], [⟨0, [1, 3, 4], [1]⟩], [], [], [], [], [], [], [], [], []⟩),
 (112, ⟨[2], [], [⟨0, [1, 3], [1]⟩], [], [], [], [], [], [], [], [], []⟩),
 (114, ⟨[3, 4, 7, 52, 56, 67, 86, 91, 97], [], [⟨0, [1, 2, 4, 5, 6], [1, 2, 5]⟩, ⟨2, [1, 2, 4, 5, 6, 7, 8], [1, 2, 5]⟩], [], [(20, [0, 2, 3, 4, 5, 6, 7, 8, 9, 10, 11, 12, 13, 1, 14, 15, 16, 17, 18, 19])], [], [], [], [], [], [], []⟩),
 (115, ⟨[5, 7, 10, 80, 84, 95, 107, 112, 118], [], [⟨0, [2, 3, 4, 7, 8, 9], [2, 3, 4, 6, 8]⟩, ⟨2, [2, 3, 4, 7, 8, 9, 10, 11], [2, 3, 4, 6, 8]⟩], [], [(23, [0, 2, 3, 4, 5, 6, 7, 1, 8, 9, 10, 11, 12])], [], [], [], [], [], [], []⟩),
 (116, ⟨[2, 22], [7], [⟨0, [0, 3, 4], [7]⟩], [], [], [], [], [], [], [], [], []⟩),
 (117, ⟨[4, 17], [], [⟨0, [0, 1, 7, 8], []⟩], [], [], [], [], [], [], [], [], []⟩),
 (118, ⟨[4, 17], [], [⟨0, [0, 1, 7, 8], []⟩], [], [], [], [], [], [], [], [], []⟩),
 (119, ⟨[4], [], [], [], [], [], [], [], [], [], [], []⟩),
 (122, ⟨[9, 11, 15, 43, 56, 65, 71, 82, 88], [], [⟨0, [1, 2, 3, 8, 11, 12, 13, 14], [4, 8, 13, 22]⟩, ⟨2, [1, 2, 3, 8, 11, 12, 13, 14, 15, 33], [4, 8, 13, 22]⟩], [77], [(21, [0, 2, 3, 4, 5, 6, 7, 1, 8, 9, 10, 11])], [], [], [77], [], [], [], []⟩),
 (123, ⟨[3], [], [], [], [], [], [], [], [], [], [], []⟩),
 (124, ⟨[], [], [⟨0, [1, 8, 9, 10], [2]⟩], [], [], [], [], [], [], [], [], []⟩),
 (125, ⟨[], [], [], [24], [], [], [], [24], [], [], [], []⟩),
 (126, ⟨[6, 31], [], [⟨0, [1, 2, 7, 11, 12, 13], [3]⟩], [], [], [], [], [], [], [], [], []⟩),
 (127, ⟨[3], [], [], [], [], [], [], [], [], [], [], []⟩),
 (129, ⟨[], [], [⟨0, [0, 1, 5], []⟩], [], [], [], [], [], [], [], [], []⟩),
 (130, ⟨[8, 50], [], [⟨0, [1, 2, 3, 4, 9, 10], [4]⟩], [], [], [], [], [], [], [], [], []⟩),
 (131, ⟨[4, 8, 9], [], [], [], [], [], [], [], [], [], [], []⟩),
 (133, ⟨[6, 34, 39, 44, 53], [], [⟨0, [0, 2, 3, 4, 5], [2, 3]⟩, ⟨2, [0, 2, 3, 4, 5, 6, 7], [2, 3]⟩], [], [], [], [], [], [], [], [], []⟩),
 (134, ⟨[6, 29], [], [⟨0, [1, 2, 3, 7, 8], [3]⟩], [], [], [], [7], [], [], [], [], []⟩),
 (135, ⟨[], [], [⟨0, [1, 2, 5], [2]⟩], [], [], [], [], [], [], [], [], []⟩),
 (136, ⟨[4, 6, 33, 39, 43], [], [⟨0, [0, 1, 5], []⟩], [], [], [], [4], [], [], [], [], []⟩),
 (137, ⟨[4, 40], [], [⟨0, [0, 3, 5], [3]⟩], [], [], [], [], [], [], [], [], []⟩),
 (138, ⟨[4], [], [], [], [], [], [], [], [], [], [], []⟩),
 (139, ⟨[], [], [⟨0, [0, 1, 5], []⟩], [], [], [], [], [], [], [], [], []⟩)]
noncomputable def EE : Env := { P := Tryz.prog, H := fun f => ((hints.find? (·.1 == f)).map (·.2)).getD ⟨[], [], [], [], [], [], [], [], [], [], [], []⟩, orc := fun g vs => if g = 119 then idxO vs else none }
theorem EP : EE.P = Tryz.prog := rfl
theorem o119 (s : ByteArray) (c : Int) : EE.orc 119 [.str s, .int .u8 c] = some (.int .i64 (idxB s c)) := by kernel_rfl
theorem h3 : EE.H 3 = ⟨[19, 27, 73], [], [], [], [], [], [], [], [], [], [], []⟩ := by kernel_rfl
theorem o3 (vs : List V) : EE.orc 3 vs = none := by kernel_rfl
theorem h4 : EE.H 4 = ⟨[16, 25], [], [], [], [], [], [], [], [], [], [], []⟩ := by kernel_rfl
theorem o4 (vs : List V) : EE.orc 4 vs = none := by kernel_rfl
theorem h5 : EE.H 5 = ⟨[4, 11], [], [], [], [], [], [], [], [], [], [], []⟩ := by kernel_rfl
theorem o5 (vs : List V) : EE.orc 5 vs = none := by kernel_rfl
theorem h6 : EE.H 6 = ⟨[24], [], [⟨0, [1, 2, 4, 5], [1, 2, 4]⟩], [], [], [], [32], [], [], [32], [], []⟩ := by kernel_rfl
theorem o6 (vs : List V) : EE.orc 6 vs = none := by kernel_rfl
theorem h7 : EE.H 7 = ⟨[], [], [], [], [], [], [], [], [], [], [], []⟩ := by kernel_rfl
theorem o7 (vs : List V) : EE.orc 7 vs = none := by kernel_rfl
theorem h8 : EE.H 8 = ⟨[32, 41, 50, 59, 65], [], [⟨0, [1, 2, 4, 5], [1, 2, 4]⟩], [], [], [], [37, 46, 55, 63, 70], [], [], [70], [], []⟩ := by kernel_rfl
theorem o8 (vs : List V) : EE.orc 8 vs = none := by kernel_rfl
theorem h9 : EE.H 9 = ⟨[], [], [], [], [], [], [], [], [], [], [], []⟩ := by kernel_rfl
theorem o9 (vs : List V) : EE.orc 9 vs = none := by kernel_rfl
theorem h10 : EE.H 10 = ⟨[], [], [], [], [], [], [], [], [], [], [], []⟩ := by kernel_rfl
theorem o10 (vs : List V) : EE.orc 10 vs = none := by kernel_rfl
theorem h11 : EE.H 11 = ⟨[4, 9], [], [], [], [], [], [], [], [], [], [], []⟩ := by kernel_rfl
theorem o11 (vs : List V) : EE.orc 11 vs = none := by kernel_rfl
theorem h12 : EE.H 12 = ⟨[4, 13], [], [], [], [], [], [], [], [], [], [], [8, 12]⟩ := by kernel_rfl
theorem o12 (vs : List V) : EE.orc 12 vs = none := by kernel_rfl
theorem h13 : EE.H 13 = ⟨[4, 17], [], [], [], [], [], [], [], [], [], [], [8, 14]⟩ := by kernel_rfl
theorem o13 (vs : List V) : EE.orc 13 vs = none := by kernel_rfl
theorem h14 : EE.H 14 = ⟨[2, 3, 9, 16, 23], [], [], [], [], [], [12], [], [], [], [], []⟩ := by kernel_rfl
theorem o14 (vs : List V) : EE.orc 14 vs = none := by kernel_rfl
theorem h15 : EE.H 15 = ⟨[2, 3, 9, 16, 23], [], [], [], [], [], [12], [], [], [], [], []⟩ := by kernel_rfl
theorem o15 (vs : List V) : EE.orc 15 vs = none := by kernel_rfl
theorem h16 : EE.H 16 = ⟨[4, 26], [], [⟨0, [0, 1, 5], []⟩], [], [], [], [], [], [], [], [], []⟩ := by kernel_rfl
theorem o16 (vs : List V) : EE.orc 16 vs = none := by kernel_rfl
theorem h17 : EE.H 17 = ⟨[2], [], [⟨0, [1, 3], [1]⟩], [], [], [], [], [], [], [], [], []⟩ := by kernel_rfl
theorem o17 (vs : List V) : EE.orc 17 vs = none := by kernel_rfl
theorem h18 : EE.H 18 = ⟨[5, 15, 24, 33, 42, 48, 56], [], [], [], [], [], [20, 29, 38, 46, 53], [], [], [53], [], []⟩ := by kernel_rfl
theorem o18 (vs : List V) : EE.orc 18 vs = none := by kernel_rfl
theorem h19 : EE.H 19 = ⟨[2, 22], [7], [⟨0, [0, 3, 4], [7]⟩], [], [], [], [], [], [], [], [], []⟩ := by kernel_rfl
theorem o19 (vs : List V) : EE.orc 19 vs = none := by kernel_rfl
theorem h20 : EE.H 20 = ⟨[2], [], [], [], [], [], [], [], [], [], [], []⟩ := by kernel_rfl
theorem o20 (vs : List V) : EE.orc 20 vs = none := by kernel_rfl
theorem h21 : EE.H 21 = ⟨[], [], [], [], [], [], [], [], [], [], [], []⟩ := by kernel_rfl
theorem o21 (vs : List V) : EE.orc 21 vs = none := by kernel_rfl
theorem h22 : EE.H 22 = ⟨[], [], [], [], [], [19], [], [], [], [], [], []⟩ := by kernel_rfl
theorem o22 (vs : List V) : EE.orc 22 vs = none := by kernel_rfl
theorem h23 : EE.H 23 = ⟨[27, 40], [], [⟨0, [1, 2, 4, 6, 22, 23], [2, 4, 6]⟩], [], [(7, [0, 2, 3, 4, 5, 6, 7, 8, 9, 10, 1, 11, 12, 13])], [41], [], [], [], [], [], []⟩ := by kernel_rfl
theorem o23 (vs : List V) : EE.orc 23 vs = none := by kernel_rfl
theorem h24 : EE.H 24 = ⟨[27], [], [⟨0, [2, 3, 4, 6, 22, 23], [2, 3, 4, 6]⟩], [], [(7, [0, 2, 3, 4, 5, 6, 7, 8, 9, 10, 11, 12, 13, 14, 15, 16, 17, 18, 1, 19, 20, 21])], [49], [], [], [], [], [], []⟩ := by kernel_rfl
theorem o24 (vs : List V) : EE.orc 24 vs = none := by kernel_rfl
theorem h25 : EE.H 25 = ⟨[3], [], [], [], [], [], [], [], [], [], [], []⟩ := by kernel_rfl
theorem o25 (vs : List V) : EE.orc 25 vs = none := by kernel_rfl
theorem h26 : EE.H 26 = ⟨[7, 28], [], [], [], [], [], [], [], [], [], [], []⟩ := by kernel_rfl
theorem o26 (vs : List V) : EE.orc 26 vs = none := by kernel_rfl
theorem h27 : EE.H 27 = ⟨[21], [], [⟨0, [2, 3, 14, 15, 16], [1, 2, 3]⟩], [], [], [], [], [], [], [], [], []⟩ := by kernel_rfl
theorem o27 (vs : List V) : EE.orc 27 vs = none := by kernel_rfl
theorem h28 : EE.H 28 = ⟨[], [], [⟨0, [0, 1, 5], []⟩], [], [], [], [], [], [], [], [], []⟩ := by kernel_rfl
theorem o28 (vs : List V) : EE.orc 28 vs = none := by kernel_rfl
theorem h29 : EE.H 29 = ⟨[], [], [⟨0, [0, 1, 5], []⟩], [], [], [], [], [], [], [], [], []⟩ := by kernel_rfl
theorem o29 (vs : List V) : EE.orc 29 vs = none := by kernel_rfl
theorem h30 : EE.H 30 = ⟨[], [], [⟨0, [0, 1, 5], []⟩], [], [], [], [], [], [], [], [], []⟩ := by kernel_rfl
theorem o30 (vs : List V) : EE.orc 30 vs = none := by kernel_rfl
theorem h31 : EE.H 31 = ⟨[4, 79], [], [⟨0, [0, 1, 5], []⟩], [], [], [], [], [], [], [], [], []⟩ := by kernel_rfl
theorem o31 (vs : List V) : EE.orc 31 vs = none := by kernel_rfl
theorem h32 : EE.H 32 = ⟨[4, 20], [], [⟨0, [0, 1, 5], []⟩], [], [], [], [], [], [], [], [], []⟩ := by kernel_rfl
theorem o32 (vs : List V) : EE.orc 32 vs = none := by kernel_rfl
theorem h33 : EE.H 33 = ⟨[4, 18], [], [⟨0, [0, 1, 5], []⟩], [], [], [], [], [], [], [], [], [17]⟩ := by kernel_rfl
theorem o33 (vs : List V) : EE.orc 33 vs = none := by kernel_rfl
theorem h34 : EE.H 34 = ⟨[4, 22], [], [⟨0, [0, 1, 5], []⟩], [], [], [], [], [], [], [], [], []⟩ := by kernel_rfl
theorem o34 (vs : List V) : EE.orc 34 vs = none := by kernel_rfl
theorem h35 : EE.H 35 = ⟨[4, 20], [], [⟨0, [0, 1, 5], []⟩], [], [], [], [], [], [], [], [], [17]⟩ := by kernel_rfl
theorem o35 (vs : List V) : EE.orc 35 vs = none := by kernel_rfl
theorem h36 : EE.H 36 = ⟨[2, 3, 9, 16, 17], [], [], [], [], [], [], [], [], [], [], []⟩ := by kernel_rfl
theorem o36 (vs : List V) : EE.orc 36 vs = none := by kernel_rfl
theorem h37 : EE.H 37 = ⟨[2, 3], [], [], [], [], [], [], [], [], [], [], []⟩ := by kernel_rfl
theorem o37 (vs : List V) : EE.orc 37 vs = none := by kernel_rfl
theorem h38 : EE.H 38 = ⟨[4, 24], [], [], [], [], [], [], [], [], [], [], []⟩ := by kernel_rfl
theorem o38 (vs : List V) : EE.orc 38 vs = none := by kernel_rfl
theorem h39 : EE.H 39 = ⟨[2, 49], [], [], [], [], [], [], [], [], [], [], []⟩ := by kernel_rfl
theorem o39 (vs : List V) : EE.orc 39 vs = none := by kernel_rfl
theorem h40 : EE.H 40 = ⟨[8], [], [], [], [], [20], [], [], [], [], [], []⟩ := by kernel_rfl
theorem o40 (vs : List V) : EE.orc 40 vs = none := by kernel_rfl
theorem h41 : EE.H 41 = ⟨[28], [6], [⟨0, [1, 2, 4, 6, 7], [2, 4, 6, 430, 431]⟩], [], [], [20], [], [], [], [], [45], []⟩ := by kernel_rfl
theorem o41 (vs : List V) : EE.orc 41 vs = none := by kernel_rfl
theorem h42 : EE.H 42 = ⟨[33], [6], [⟨0, [2, 3, 4, 6, 7], [2, 3, 4, 6, 439, 440]⟩, ⟨2, [2, 3, 4, 6, 7, 8], [2, 3, 4, 6, 439, 440]⟩], [], [], [21], [], [], [], [], [54], []⟩ := by kernel_rfl
theorem o42 (vs : List V) : EE.orc 42 vs = none := by kernel_rfl
theorem h43 : EE.H 43 = ⟨[3, 10, 16], [], [], [], [], [], [], [], [], [], [], []⟩ := by kernel_rfl
theorem o43 (vs : List V) : EE.orc 43 vs = none := by kernel_rfl
theorem h44 : EE.H 44 = ⟨[7, 10, 14, 88, 92, 125, 131, 136, 142], [], [⟨0, [2, 3, 4, 6, 8, 9, 10, 11], [3, 4, 6, 9]⟩, ⟨2, [2, 3, 4, 6, 8, 9, 10, 11, 12, 13, 14, 15], [3, 4, 6, 9]⟩], [], [], [], [], [], [], [], [], []⟩ := by kernel_rfl
theorem o44 (vs : List V) : EE.orc 44 vs = none := by kernel_rfl
theorem h45 : EE.H 45 = ⟨[24], [1000003], [⟨0, [2, 3, 4], [1, 2, 3, 217]⟩], [], [], [6], [], [], [], [], [], []⟩ := by kernel_rfl
theorem o45 (vs : List V) : EE.orc 45 vs = none := by kernel_rfl
theorem h46 : EE.H 46 = ⟨[], [], [], [], [], [], [], [], [], [], [], []⟩ := by kernel_rfl
theorem o46 (vs : List V) : EE.orc 46 vs = none := by kernel_rfl
theorem h47 : EE.H 47 = ⟨[4], [], [], [], [], [], [], [], [], [], [], []⟩ := by kernel_rfl
theorem o47 (vs : List V) : EE.orc 47 vs = none := by kernel_rfl
theorem h48 : EE.H 48 = ⟨[2], [], [], [], [], [], [], [], [], [], [], []⟩ := by kernel_rfl
theorem o48 (vs : List V) : EE.orc 48 vs = none := by kernel_rfl
theorem h49 : EE.H 49 = ⟨[2, 41], [], [], [], [], [], [], [], [], [], [], []⟩ := by kernel_rfl
theorem o49 (vs : List V) : EE.orc 49 vs = none := by kernel_rfl
theorem h50 : EE.H 50 = ⟨[2], [], [], [], [], [], [], [], [], [], [], []⟩ := by kernel_rfl
theorem o50 (vs : List V) : EE.orc 50 vs = none := by kernel_rfl
theorem h51 : EE.H 51 = ⟨[2], [], [], [], [], [], [], [], [], [], [], []⟩ := by kernel_rfl
theorem o51 (vs : List V) : EE.orc 51 vs = none := by kernel_rfl
theorem h52 : EE.H 52 = ⟨[5, 27, 33, 60, 72, 133, 167, 185, 210, 223, 236, 237, 242], [79, 99], [⟨0, [2, 4, 5, 6, 7], [2, 4, 38]⟩, ⟨2, [2, 4, 5, 6, 7, 54, 55, 56], [2, 4, 38]⟩, ⟨4, [2, 4, 5, 6, 12, 80, 81, 82], [2, 4, 38, 79]⟩, ⟨6, [2, 4, 5, 6, 12, 15], [2, 4, 38]⟩, ⟨8, [2, 4, 5, 6, 12, 15, 16, 17, 100, 101, 102], [2, 4, 38, 96, 99]⟩, ⟨10, [2, 4, 5, 6, 12, 15, 16, 17, 18, 20, 100, 101, 102, 116, 117, 118], [2, 4, 20, 38, 96, 99]⟩, ⟨12, [2, 4, 5, 6, 12, 25, 26, 27, 163, 164], [2, 4, 25, 38, 160]⟩, ⟨14, [2, 4, 5, 6, 12, 25, 26, 190, 191, 192], [2, 4, 25, 38, 160]⟩, ⟨16, [2, 4, 5, 6, 12, 25, 26, 32, 33, 190, 191, 192, 204, 205, 206], [2, 4, 25, 38, 160]⟩], [], [(61, [0, 2, 3, 4, 5, 6, 7, 8, 9, 10, 1, 11, 12, 13])], [220, 233], [], [], [], [238, 239], [], []⟩ := by kernel_rfl
theorem o52 (vs : List V) : EE.orc 52 vs = none := by kernel_rfl
theorem h53 : EE.H 53 = ⟨[6, 25], [], [⟨0, [1, 2, 3, 7], [3]⟩], [], [], [], [], [], [], [], [], []⟩ := by kernel_rfl
theorem o53 (vs : List V) : EE.orc 53 vs = none := by kernel_rfl
theorem h54 : EE.H 54 = ⟨[], [], [⟨0, [11, 12, 13], [1]⟩], [], [], [], [], [], [], [], [], []⟩ := by kernel_rfl
theorem o54 (vs : List V) : EE.orc 54 vs = none := by kernel_rfl
theorem h55 : EE.H 55 = ⟨[2], [], [], [], [], [], [], [], [], [], [], []⟩ := by kernel_rfl
theorem o55 (vs : List V) : EE.orc 55 vs = none := by kernel_rfl
theorem h56 : EE.H 56 = ⟨[3, 4, 17, 25], [], [⟨0, [1, 2, 4, 11, 12, 13], [1, 2]⟩], [], [], [], [], [], [], [], [], []⟩ := by kernel_rfl
theorem o56 (vs : List V) : EE.orc 56 vs = none := by kernel_rfl
theorem h57 : EE.H 57 = ⟨[9, 11, 15, 43, 56, 65, 71, 82, 88], [], [⟨0, [1, 2, 3, 8, 11, 12, 13, 14], [4, 8, 13, 22]⟩, ⟨2, [1, 2, 3, 8, 11, 12, 13, 14, 15, 33], [4, 8, 13, 22]⟩], [77], [(21, [0, 2, 3, 4, 5, 6, 7, 1, 8, 9, 10, 11])], [], [], [77], [], [], [], []⟩ := by kernel_rfl
theorem o57 (vs : List V) : EE.orc 57 vs = none := by kernel_rfl
theorem h58 : EE.H 58 = ⟨[5], [], [], [], [], [], [], [], [], [], [], []⟩ := by kernel_rfl
theorem o58 (vs : List V) : EE.orc 58 vs = none := by kernel_rfl
theorem h59 : EE.H 59 = ⟨[], [], [], [], [], [], [], [], [25], [], [], []⟩ := by kernel_rfl
theorem o59 (vs : List V) : EE.orc 59 vs = none := by kernel_rfl
theorem h60 : EE.H 60 = ⟨[], [], [], [], [], [], [], [], [], [], [], []⟩ := by kernel_rfl
theorem o60 (vs : List V) : EE.orc 60 vs = none := by kernel_rfl
theorem h61 : EE.H 61 = ⟨[], [], [⟨0, [0, 1, 5], []⟩], [], [], [], [], [], [], [], [], []⟩ := by kernel_rfl
theorem o61 (vs : List V) : EE.orc 61 vs = none := by kernel_rfl
theorem h62 : EE.H 62 = ⟨[], [], [], [], [], [], [], [], [], [], [], []⟩ := by kernel_rfl
theorem o62 (vs : List V) : EE.orc 62 vs = none := by kernel_rfl
theorem h63 : EE.H 63 = ⟨[2], [], [⟨0, [0, 3], []⟩], [], [], [], [], [], [], [], [], []⟩ := by kernel_rfl
theorem o63 (vs : List V) : EE.orc 63 vs = none := by kernel_rfl
theorem h64 : EE.H 64 = ⟨[4, 34], [], [⟨0, [0, 1, 5], []⟩], [], [], [], [], [], [], [], [], []⟩ := by kernel_rfl
theorem o64 (vs : List V) : EE.orc 64 vs = none := by kernel_rfl
theorem h65 : EE.H 65 = ⟨[4, 18], [], [⟨0, [0, 1, 5], []⟩], [], [], [], [], [], [], [], [], []⟩ := by kernel_rfl
theorem o65 (vs : List V) : EE.orc 65 vs = none := by kernel_rfl
theorem h66 : EE.H 66 = ⟨[4, 20], [], [⟨0, [0, 1, 5], []⟩], [], [], [], [], [], [], [], [], []⟩ := by kernel_rfl
theorem o66 (vs : List V) : EE.orc 66 vs = none := by kernel_rfl
theorem h67 : EE.H 67 = ⟨[], [], [⟨0, [1, 3, 4], [1]⟩, ⟨2, [1, 3, 4, 5], [1]⟩], [], [], [], [], [], [], [], [], []⟩ := by kernel_rfl
theorem o67 (vs : List V) : EE.orc 67 vs = none := by kernel_rfl
theorem h68 : EE.H 68 = ⟨[4, 6, 7, 49, 53], [], [⟨0, [1, 2, 6, 7, 8], [2]⟩, ⟨2, [1, 2, 6, 7, 8, 9], [2]⟩], [], [], [], [], [], [], [], [], []⟩ := by kernel_rfl
theorem o68 (vs : List V) : EE.orc 68 vs = none := by kernel_rfl
theorem h69 : EE.H 69 = ⟨[6, 8, 9, 48, 60, 64], [], [⟨0, [1, 2, 8, 9, 10, 11], [19]⟩, ⟨2, [1, 2, 8, 9, 10, 11, 38], [19]⟩], [], [], [], [], [], [], [], [], []⟩ := by kernel_rfl
theorem o69 (vs : List V) : EE.orc 69 vs = none := by kernel_rfl
theorem h70 : EE.H 70 = ⟨[3], [], [], [], [], [], [], [], [], [], [], []⟩ := by kernel_rfl
theorem o70 (vs : List V) : EE.orc 70 vs = none := by kernel_rfl
theorem h71 : EE.H 71 = ⟨[5], [], [], [], [], [], [], [], [], [], [], []⟩ := by kernel_rfl
theorem o71 (vs : List V) : EE.orc 71 vs = none := by kernel_rfl
theorem h72 : EE.H 72 = ⟨[4, 26], [], [], [], [], [], [], [], [], [], [], []⟩ := by kernel_rfl
theorem o72 (vs : List V) : EE.orc 72 vs = none := by kernel_rfl
theorem h73 : EE.H 73 = ⟨[4, 18], [], [], [], [], [], [], [], [], [], [], []⟩ := by kernel_rfl
theorem o73 (vs : List V) : EE.orc 73 vs = none := by kernel_rfl
theorem h74 : EE.H 74 = ⟨[2], [], [⟨0, [0, 3], []⟩], [], [], [], [], [], [], [], [], []⟩ := by kernel_rfl
theorem o74 (vs : List V) : EE.orc 74 vs = none := by kernel_rfl
theorem h75 : EE.H 75 = ⟨[2], [], [], [], [], [], [], [], [], [], [], []⟩ := by kernel_rfl
theorem o75 (vs : List V) : EE.orc 75 vs = none := by kernel_rfl
theorem h76 : EE.H 76 = ⟨[2], [], [], [], [], [], [], [], [], [], [], []⟩ := by kernel_rfl
theorem o76 (vs : List V) : EE.orc 76 vs = none := by kernel_rfl
theorem h77 : EE.H 77 = ⟨[6, 45], [], [⟨0, [2, 3, 8, 9], [3]⟩], [], [], [], [], [], [], [], [], []⟩ := by kernel_rfl
theorem o77 (vs : List V) : EE.orc 77 vs = none := by kernel_rfl
theorem h78 : EE.H 78 = ⟨[4, 7, 46, 50, 57, 70, 71, 75], [], [⟨0, [1, 2, 3, 4, 5, 6], [1, 2, 5]⟩, ⟨2, [1, 2, 3, 4, 5, 6, 7, 8], [1, 2, 5]⟩], [], [(15, [0, 2, 3, 4, 5, 6, 7, 8, 9, 10, 1, 11, 12, 13])], [55, 67], [], [], [], [72, 73], [], []⟩ := by kernel_rfl
theorem o78 (vs : List V) : EE.orc 78 vs = none := by kernel_rfl
theorem h79 : EE.H 79 = ⟨[7, 22, 38, 50], [], [⟨0, [1, 2, 4, 5, 6], [2, 4, 5]⟩, ⟨2, [1, 2, 4, 5, 6, 7, 8], [2, 4, 5]⟩], [], [(9, [1, 2, 3, 4, 5, 6, 7, 8, 9, 10, 11, 12, 13, 0, 14, 15]), (10, [0, 2, 3, 4, 5, 6, 7, 8, 9, 1, 10, 11, 12])], [], [], [], [], [], [], []⟩ := by kernel_rfl
theorem o79 (vs : List V) : EE.orc 79 vs = none := by kernel_rfl
theorem h80 : EE.H 80 = ⟨[18, 29], [], [⟨0, [1, 2, 3, 4], [1, 2, 3]⟩], [], [(5, [0, 2, 3, 4, 5, 6, 7, 8, 9, 1, 10, 11, 12])], [8, 25], [], [], [], [26, 27], [], []⟩ := by kernel_rfl
theorem o80 (vs : List V) : EE.orc 80 vs = none := by kernel_rfl
theorem h81 : EE.H 81 = ⟨[4, 44], [], [⟨0, [1, 2, 5, 6], [2]⟩], [], [], [], [], [], [], [], [], []⟩ := by kernel_rfl
theorem o81 (vs : List V) : EE.orc 81 vs = none := by kernel_rfl
theorem h82 : EE.H 82 = ⟨[2], [], [], [], [], [], [], [], [], [], [], []⟩ := by kernel_rfl
theorem o82 (vs : List V) : EE.orc 82 vs = none := by kernel_rfl
theorem h83 : EE.H 83 = ⟨[3, 16, 36, 42, 43, 57, 63, 72], [], [], [], [], [], [], [], [], [], [], []⟩ := by kernel_rfl
theorem o83 (vs : List V) : EE.orc 83 vs = none := by kernel_rfl
theorem h84 : EE.H 84 = ⟨[4, 18], [], [⟨0, [0, 1, 5], []⟩], [], [], [], [], [], [], [], [], []⟩ := by kernel_rfl
theorem o84 (vs : List V) : EE.orc 84 vs = none := by kernel_rfl
theorem h85 : EE.H 85 = ⟨[], [], [], [], [], [], [], [], [], [], [], []⟩ := by kernel_rfl
theorem o85 (vs : List V) : EE.orc 85 vs = none := by kernel_rfl
theorem h86 : EE.H 86 = ⟨[], [], [], [], [], [8], [], [], [], [], [], []⟩ := by kernel_rfl
theorem o86 (vs : List V) : EE.orc 86 vs = none := by kernel_rfl
theorem h87 : EE.H 87 = ⟨[], [], [], [], [], [], [], [], [], [], [], []⟩ := by kernel_rfl
theorem o87 (vs : List V) : EE.orc 87 vs = none := by kernel_rfl
theorem h88 : EE.H 88 = ⟨[], [], [], [], [], [], [], [], [], [], [], []⟩ := by kernel_rfl
theorem o88 (vs : List V) : EE.orc 88 vs = none := by kernel_rfl
theorem h89 : EE.H 89 = ⟨[4, 17], [], [⟨0, [0, 1, 7, 8], []⟩], [], [], [], [], [], [], [], [], []⟩ := by kernel_rfl
theorem o89 (vs : List V) : EE.orc 89 vs = none := by kernel_rfl
theorem h90 : EE.H 90 = ⟨[2], [], [], [], [], [], [], [], [], [], [], []⟩ := by kernel_rfl
theorem o90 (vs : List V) : EE.orc 90 vs = none := by kernel_rfl
theorem h91 : EE.H 91 = ⟨[6], [], [], [], [], [], [], [], [], [], [], []⟩ := by kernel_rfl
theorem o91 (vs : List V) : EE.orc 91 vs = none := by kernel_rfl
theorem h92 : EE.H 92 = ⟨[4], [], [], [], [], [], [], [], [], [], [], []⟩ := by kernel_rfl
theorem o92 (vs : List V) : EE.orc 92 vs = none := by kernel_rfl
theorem h93 : EE.H 93 = ⟨[3], [], [], [], [], [], [], [], [], [], [], []⟩ := by kernel_rfl
theorem o93 (vs : List V) : EE.orc 93 vs = none := by kernel_rfl
theorem h94 : EE.H 94 = ⟨[4], [], [], [], [], [], [], [], [], [], [], []⟩ := by kernel_rfl
theorem o94 (vs : List V) : EE.orc 94 vs = none := by kernel_rfl
theorem h95 : EE.H 95 = ⟨[3], [], [], [], [], [], [], [], [], [], [], []⟩ := by kernel_rfl
theorem o95 (vs : List V) : EE.orc 95 vs = none := by kernel_rfl
theorem h96 : EE.H 96 = ⟨[], [], [⟨0, [0, 3], []⟩], [], [], [], [], [], [], [], [], []⟩ := by kernel_rfl
theorem o96 (vs : List V) : EE.orc 96 vs = none := by kernel_rfl
theorem h97 : EE.H 97 = ⟨[2], [], [], [], [], [], [], [], [], [], [], []⟩ := by kernel_rfl
theorem o97 (vs : List V) : EE.orc 97 vs = none := by kernel_rfl
theorem h98 : EE.H 98 = ⟨[4], [], [⟨0, [1, 5, 36, 37, 38], [2]⟩], [], [], [], [], [], [], [], [], []⟩ := by kernel_rfl
theorem o98 (vs : List V) : EE.orc 98 vs = none := by kernel_rfl
theorem h99 : EE.H 99 = ⟨[39, 47], [26], [⟨0, [0, 2, 4, 5, 16, 17], [2, 5]⟩], [], [], [], [], [], [], [], [], []⟩ := by kernel_rfl
theorem o99 (vs : List V) : EE.orc 99 vs = none := by kernel_rfl
theorem h100 : EE.H 100 = ⟨[5, 20], [], [], [], [], [], [], [], [], [], [], []⟩ := by kernel_rfl
theorem o100 (vs : List V) : EE.orc 100 vs = none := by kernel_rfl
theorem h101 : EE.H 101 = ⟨[3, 11], [], [], [], [], [], [], [], [], [], [], []⟩ := by kernel_rfl
theorem o101 (vs : List V) : EE.orc 101 vs = none := by kernel_rfl
theorem h102 : EE.H 102 = ⟨[], [], [], [], [], [], [], [], [], [], [], []⟩ := by kernel_rfl
theorem o102 (vs : List V) : EE.orc 102 vs = none := by kernel_rfl
theorem h103 : EE.H 103 = ⟨[], [], [], [], [], [], [], [], [], [], [], []⟩ := by kernel_rfl
theorem o103 (vs : List V) : EE.orc 103 vs = none := by kernel_rfl
theorem h104 : EE.H 104 = ⟨[6], [], [], [], [], [], [], [], [], [], [], []⟩ := by kernel_rfl
theorem o104 (vs : List V) : EE.orc 104 vs = none := by kernel_rfl
theorem h105 : EE.H 105 = ⟨[4, 26], [], [⟨0, [0, 1, 5], []⟩], [], [], [], [], [], [], [], [], []⟩ := by kernel_rfl
theorem o105 (vs : List V) : EE.orc 105 vs = none := by kernel_rfl
theorem h106 : EE.H 106 = ⟨[2, 12], [], [⟨0, [0, 3], []⟩], [], [], [], [], [], [], [], [], []⟩ := by kernel_rfl
theorem o106 (vs : List V) : EE.orc 106 vs = none := by kernel_rfl
theorem h107 : EE.H 107 = ⟨[2], [], [], [], [], [], [], [], [], [], [], []⟩ := by kernel_rfl
theorem o107 (vs : List V) : EE.orc 107 vs = none := by kernel_rfl
theorem h108 : EE.H 108 = ⟨[2, 59], [14, 34], [⟨0, [1, 3, 4, 5], [1, 14]⟩, ⟨2, [1, 3, 4, 6], [1]⟩, ⟨4, [1, 3, 4, 6, 7, 8], [1, 34]⟩, ⟨6, [1, 3, 4, 6, 7, 8, 9], [1, 34]⟩], [], [], [], [], [], [], [], [], []⟩ := by kernel_rfl
theorem o108 (vs : List V) : EE.orc 108 vs = none := by kernel_rfl
theorem h109 : EE.H 109 = ⟨[4, 8, 12], [], [], [], [], [], [], [], [], [], [], []⟩ := by kernel_rfl
theorem o109 (vs : List V) : EE.orc 109 vs = none := by kernel_rfl
theorem h110 : EE.H 110 = ⟨[4, 26], [], [⟨0, [1, 2, 5], [2]⟩], [], [], [], [], [], [], [], [], []⟩ := by kernel_rfl
theorem o110 (vs : List V) : EE.orc 110 vs = none := by kernel_rfl
theorem h111 : EE.H 111 = ⟨[2], [], [⟨0, [1, 3, 4], [1]⟩], [], [], [], [], [], [], [], [], []⟩ := by kernel_rfl
theorem o111 (vs : List V) : EE.orc 111 vs = none := by kernel_rfl
theorem h112 : EE.H 112 = ⟨[2], [], [⟨0, [1, 3], [1]⟩], [], [], [], [], [], [], [], [], []⟩ := by kernel_rfl
theorem o112 (vs : List V) : EE.orc 112 vs = none := by kernel_rfl
theorem h113 : EE.H 113 = ⟨[], [], [], [], [], [], [], [], [], [], [], []⟩ := by kernel_rfl
theorem o113 (vs : List V) : EE.orc 113 vs = none := by kernel_rfl
theorem h114 : EE.H 114 = ⟨[3, 4, 7, 52, 56, 67, 86, 91, 97], [], [⟨0, [1, 2, 4, 5, 6], [1, 2, 5]⟩, ⟨2, [1, 2, 4, 5, 6, 7, 8], [1, 2, 5]⟩], [], [(20, [0, 2, 3, 4, 5, 6, 7, 8, 9, 10, 11, 12, 13, 1, 14, 15, 16, 17, 18, 19])], [], [], [], [], [], [], []⟩ := by kernel_rfl
theorem o114 (vs : List V) : EE.orc 114 vs = none := by kernel_rfl
theorem h115 : EE.H 115 = ⟨[5, 7, 10, 80, 84, 95, 107, 112, 118], [], [⟨0, [2, 3, 4, 7, 8, 9], [2, 3, 4, 6, 8]⟩, ⟨2, [2, 3, 4, 7, 8, 9, 10, 11], [2, 3, 4, 6, 8]⟩], [], [(23, [0, 2, 3, 4, 5, 6, 7, 1, 8, 9, 10, 11, 12])], [], [], [], [], [], [], []⟩ := by kernel_rfl
theorem o115 (vs : List V) : EE.orc 115 vs = none := by kernel_rfl
theorem h116 : EE.H 116 = ⟨[2, 22], [7], [⟨0, [0, 3, 4], [7]⟩], [], [], [], [], [], [], [], [], []⟩ := by kernel_rfl
theorem o116 (vs : List V) : EE.orc 116 vs = none := by kernel_rfl
theorem h117 : EE.H 117 = ⟨[4, 17], [], [⟨0, [0, 1, 7, 8], []⟩], [], [], [], [], [], [], [], [], []⟩ := by kernel_rfl
theorem o117 (vs : List V) : EE.orc 117 vs = none := by kernel_rfl
theorem h118 : EE.H 118 = ⟨[4, 17], [], [⟨0, [0, 1, 7, 8], []⟩], [], [], [], [], [], [], [], [], []⟩ := by kernel_rfl
theorem o118 (vs : List V) : EE.orc 118 vs = none := by kernel_rfl
theorem h119 : EE.H 119 = ⟨[4], [], [], [], [], [], [], [], [], [], [], []⟩ := by kernel_rfl
theorem h120 : EE.H 120 = ⟨[], [], [], [], [], [], [], [], [], [], [], []⟩ := by kernel_rfl
theorem o120 (vs : List V) : EE.orc 120 vs = none := by kernel_rfl
theorem h121 : EE.H 121 = ⟨[], [], [], [], [], [], [], [], [], [], [], []⟩ := by kernel_rfl
theorem o121 (vs : List V) : EE.orc 121 vs = none := by kernel_rfl
theorem h122 : EE.H 122 = ⟨[9, 11, 15, 43, 56, 65, 71, 82, 88], [], [⟨0, [1, 2, 3, 8, 11, 12, 13, 14], [4, 8, 13, 22]⟩, ⟨2, [1, 2, 3, 8, 11, 12, 13, 14, 15, 33], [4, 8, 13, 22]⟩], [77], [(21, [0, 2, 3, 4, 5, 6, 7, 1, 8, 9, 10, 11])], [], [], [77], [], [], [], []⟩ := by kernel_rfl
theorem o122 (vs : List V) : EE.orc 122 vs = none := by kernel_rfl
theorem h123 : EE.H 123 = ⟨[3], [], [], [], [], [], [], [], [], [], [], []⟩ := by kernel_rfl
theorem o123 (vs : List V) : EE.orc 123 vs = none := by kernel_rfl
theorem h124 : EE.H 124 = ⟨[], [], [⟨0, [1, 8, 9, 10], [2]⟩], [], [], [], [], [], [], [], [], []⟩ := by kernel_rfl
theorem o124 (vs : List V) : EE.orc 124 vs = none := by kernel_rfl
theorem h125 : EE.H 125 = ⟨[], [], [], [24], [], [], [], [24], [], [], [], []⟩ := by kernel_rfl
theorem o125 (vs : List V) : EE.orc 125 vs = none := by kernel_rfl
theorem h126 : EE.H 126 = ⟨[6, 31], [], [⟨0, [1, 2, 7, 11, 12, 13], [3]⟩], [], [], [], [], [], [], [], [], []⟩ := by kernel_rfl
theorem o126 (vs : List V) : EE.orc 126 vs = none := by kernel_rfl
theorem h127 : EE.H 127 = ⟨[3], [], [], [], [], [], [], [], [], [], [], []⟩ := by kernel_rfl
theorem o127 (vs : List V) : EE.orc 127 vs = none := by kernel_rfl
theorem h128 : EE.H 128 = ⟨[], [], [], [], [], [], [], [], [], [], [], []⟩ := by kernel_rfl
theorem o128 (vs : List V) : EE.orc 128 vs = none := by kernel_rfl
theorem h129 : EE.H 129 = ⟨[], [], [⟨0, [0, 1, 5], []⟩], [], [], [], [], [], [], [], [], []⟩ := by kernel_rfl
theorem o129 (vs : List V) : EE.orc 129 vs = none := by kernel_rfl
theorem h130 : EE.H 130 = ⟨[8, 50], [], [⟨0, [1, 2, 3, 4, 9, 10], [4]⟩], [], [], [], [], [], [], [], [], []⟩ := by kernel_rfl
theorem o130 (vs : List V) : EE.orc 130 vs = none := by kernel_rfl
theorem h131 : EE.H 131 = ⟨[4, 8, 9], [], [], [], [], [], [], [], [], [], [], []⟩ := by kernel_rfl
theorem o131 (vs : List V) : EE.orc 131 vs = none := by kernel_rfl
theorem h132 : EE.H 132 = ⟨[], [], [], [], [], [], [], [], [], [], [], []⟩ := by kernel_rfl
theorem o132 (vs : List V) : EE.orc 132 vs = none := by kernel_rfl
theorem h133 : EE.H 133 = ⟨[6, 34, 39, 44, 53], [], [⟨0, [0, 2, 3, 4, 5], [2, 3]⟩, ⟨2, [0, 2, 3, 4, 5, 6, 7], [2, 3]⟩], [], [], [], [], [], [], [], [], []⟩ := by kernel_rfl
theorem o133 (vs : List V) : EE.orc 133 vs = none := by kernel_rfl
theorem h134 : EE.H 134 = ⟨[6, 29], [], [⟨0, [1, 2, 3, 7, 8], [3]⟩], [], [], [], [7], [], [], [], [], []⟩ := by kernel_rfl
theorem o134 (vs : List V) : EE.orc 134 vs = none := by kernel_rfl
theorem h135 : EE.H 135 = ⟨[], [], [⟨0, [1, 2, 5], [2]⟩], [], [], [], [], [], [], [], [], []⟩ := by kernel_rfl
theorem o135 (vs : List V) : EE.orc 135 vs = none := by kernel_rfl
theorem h136 : EE.H 136 = ⟨[4, 6, 33, 39, 43], [], [⟨0, [0, 1, 5], []⟩], [], [], [], [4], [], [], [], [], []⟩ := by kernel_rfl
theorem o136 (vs : List V) : EE.orc 136 vs = none := by kernel_rfl
theorem h137 : EE.H 137 = ⟨[4, 40], [], [⟨0, [0, 3, 5], [3]⟩], [], [], [], [], [], [], [], [], []⟩ := by kernel_rfl
theorem o137 (vs : List V) : EE.orc 137 vs = none := by kernel_rfl
theorem h138 : EE.H 138 = ⟨[4], [], [], [], [], [], [], [], [], [], [], []⟩ := by kernel_rfl
theorem o138 (vs : List V) : EE.orc 138 vs = none := by kernel_rfl
theorem h139 : EE.H 139 = ⟨[], [], [⟨0, [0, 1, 5], []⟩], [], [], [], [], [], [], [], [], []⟩ := by kernel_rfl
theorem o139 (vs : List V) : EE.orc 139 vs = none := by kernel_rfl
attribute [go_sem] EP h3 o3 h4 o4 h5 o5 h6 o6 h7 o7 h8 o8 h9 o9 h10 o10 h11 o11 h12 o12 h13 o13 h14 o14 h15 o15 h16 o16 h17 o17 h18 o18 h19 o19 h20 o20 h21 o21 h22 o22 h23 o23 h24 o24 h25 o25 h26 o26 h27 o27 h28 o28 h29 o29 h30 o30 h31 o31 h32 o32 h33 o33 h34 o34 h35 o35 h36 o36 h37 o37 h38 o38 h39 o39 h40 o40 h41 o41 h42 o42 h43 o43 h44 o44 h45 o45 h46 o46 h47 o47 h48 o48 h49 o49 h50 o50 h51 o51 h52 o52 h53 o53 h54 o54 h55 o55 h56 o56 h57 o57 h58 o58 h59 o59 h60 o60 h61 o61 h62 o62 h63 o63 h64 o64 h65 o65 h66 o66 h67 o67 h68 o68 h69 o69 h70 o70 h71 o71 h72 o72 h73 o73 h74 o74 h75 o75 h76 o76 h77 o77 h78 o78 h79 o79 h80 o80 h81 o81 h82 o82 h83 o83 h84 o84 h85 o85 h86 o86 h87 o87 h88 o88 h89 o89 h90 o90 h91 o91 h92 o92 h93 o93 h94 o94 h95 o95 h96 o96 h97 o97 h98 o98 h99 o99 h100 o100 h101 o101 h102 o102 h103 o103 h104 o104 h105 o105 h106 o106 h107 o107 h108 o108 h109 o109 h110 o110 h111 o111 h112 o112 h113 o113 h114 o114 h115 o115 h116 o116 h117 o117 h118 o118 h119 o119 h120 o120 h121 o121 h122 o122 h123 o123 h124 o124 h125 o125 h126 o126 h127 o127 h128 o128 h129 o129 h130 o130 h131 o131 h132 o132 h133 o133 h134 o134 h135 o135 h136 o136 h137 o137 h138 o138 h139 o139
end Go.Ev
namespace Go.Ev
open Go Go.Proofs
set_option maxRecDepth 10000
theorem ix118_1 (l : List Int) (hl : l.length ≤ 9223372036854775806) (p : Int → Bool) (g : Nat) (a : Nat) (os : List (Nat → Option Ob)) (ho : os.length ≠ 0) (hp : ∀ x ∈ l, ∀ b0 : Nat → Option Ob, run EE g (I x :: [.ptr 0 a 0]) (b0 :: os) = some (.bool (p x), b0 :: os)) (hu : (EE.H g).uniq = [] := by kernel_rfl) : run EE 118 [.slc false 1 (l.map I), .fn g [.ptr 0 a 0]] os = some (.int .i64 (posP p l 0), os) := by
 have ho2 : (0 != os.length) = true := by simp; omega
 rw [run_eq EE 118 _ _ Tryz.func118 (by decide +kernel) rfl (show 2 ≤ _ by decide)]
 dsimp only [Tryz.f118]
 simp only [go_sem, ho, ho2, hu, Bool.not_false, Bool.true_or, Bool.and_self]
 refine iter_inv (fun i : Nat => i ≤ l.length) (fun i => { t := upd (upd (upd (upd e0 8 (.int .i64 i)) 7 (.int .i64 l.length)) 1 (.fn g [.ptr 0 a 0])) 0 (.slc false 1 (l.map I)), b := n0, o := os, r := #[ResultVar.tmp 4], f := 118, n := 19 }) (fun i => some (.int .i64 (posP p (l.drop i) i), os)) (fun i => l.length - i) ?_ 0 (Nat.zero_le _)
 intro i hi ih
 by_cases h : i < l.length
 · have h1 : (i : Int) < l.length := by omega
   have w := wrap_nat (n := i) (by omega)
   have hx := hp l[i] (List.getElem_mem h) n0
   rw [List.drop_eq_getElem_cons h, posP]
   generalize p l[i] = q at hx ⊢
   try simp only [Rx.enc_eq, Vals.enc, Mor.enc, Sta.enc, Con.enc, Line.enc, Ans.enc, Prob.enc, Prog.enc, Ses.enc, Equ.enc, Mon.enc, Frm.enc, Mov.enc, Stp.enc, Dfa.enc, IL, I, B] at hx
   simp only [go_sem, h1, w, getD_map h, ho, ho2, hu, hx]
   cases q
   · simp only [go_sem, w, ho, ho2, hu, Bool.false_eq_true, if_false]
     exact ih (i + 1) (by omega) (by omega)
   · simp only [go_sem, if_true]
 · have h1 : ¬ (i : Int) < l.length := by omega
   rw [List.drop_eq_nil_of_le (by omega)]
   simp only [go_sem, h1, posP]
theorem cf94_1 (l : List Int) (hl : l.length ≤ 9223372036854775806) (p : Int → Bool) (g : Nat) (a : Nat) (os : List (Nat → Option Ob)) (ho : os.length ≠ 0) (hp : ∀ x ∈ l, ∀ b0 b1 : Nat → Option Ob, run EE g (I x :: [.ptr 0 a 0]) (b0 :: b1 :: os) = some (.bool (p x), b0 :: b1 :: os)) (hu : (EE.H g).uniq = [] := by kernel_rfl) : run EE 94 [.slc false 1 (l.map I), .fn g [.ptr 0 a 0]] os = some (.bool (l.any p), os) := by
 have hi := ix118_1 l hl p g a (n0 :: os) (by simp) (fun x hx b0 => hp x hx b0 n0) hu
 rw [run_eq EE 94 _ _ Tryz.func94 (by decide +kernel) rfl (show 2 ≤ _ by decide)]
 dsimp only [Tryz.f94]
 simp only [go_sem, ho, hu, hi, Bool.not_false, Bool.true_or, Bool.and_self]
 rw [← posP_any p l 0]

theorem ix117_1 (l : List (List Int)) (hl : l.length ≤ 9223372036854775806) (p : (List Int) → Bool) (g : Nat) (a : Nat) (os : List (Nat → Option Ob)) (ho : os.length ≠ 0) (hp : ∀ x ∈ l, ∀ b0 : Nat → Option Ob, run EE g (IL x :: [.ptr 0 a 0]) (b0 :: os) = some (.bool (p x), b0 :: os)) (hu : (EE.H g).uniq = [] := by kernel_rfl) : run EE 117 [.slc false 1 (l.map IL), .fn g [.ptr 0 a 0]] os = some (.int .i64 (posP p l 0), os) := by
 have ho2 : (0 != os.length) = true := by simp; omega
 rw [run_eq EE 117 _ _ Tryz.func117 (by decide +kernel) rfl (show 2 ≤ _ by decide)]
 dsimp only [Tryz.f117]
 simp only [go_sem, ho, ho2, hu, Bool.not_false, Bool.true_or, Bool.and_self]
 refine iter_inv (fun i : Nat => i ≤ l.length) (fun i => { t := upd (upd (upd (upd e0 8 (.int .i64 i)) 7 (.int .i64 l.length)) 1 (.fn g [.ptr 0 a 0])) 0 (.slc false 1 (l.map IL)), b := n0, o := os, r := #[ResultVar.tmp 4], f := 117, n := 19 }) (fun i => some (.int .i64 (posP p (l.drop i) i), os)) (fun i => l.length - i) ?_ 0 (Nat.zero_le _)
 intro i hi ih
 by_cases h : i < l.length
 · have h1 : (i : Int) < l.length := by omega
   have w := wrap_nat (n := i) (by omega)
   have hx := hp l[i] (List.getElem_mem h) n0
   rw [List.drop_eq_getElem_cons h, posP]
   generalize p l[i] = q at hx ⊢
   try simp only [Rx.enc_eq, Vals.enc, Mor.enc, Sta.enc, Con.enc, Line.enc, Ans.enc, Prob.enc, Prog.enc, Ses.enc, Equ.enc, Mon.enc, Frm.enc, Mov.enc, Stp.enc, Dfa.enc, IL, I, B] at hx
   simp only [go_sem, h1, w, getD_map h, ho, ho2, hu, hx]
   cases q
   · simp only [go_sem, w, ho, ho2, hu, Bool.false_eq_true, if_false]
     exact ih (i + 1) (by omega) (by omega)
   · simp only [go_sem, if_true]
 · have h1 : ¬ (i : Int) < l.length := by omega
   rw [List.drop_eq_nil_of_le (by omega)]
   simp only [go_sem, h1, posP]
theorem cf92_1 (l : List (List Int)) (hl : l.length ≤ 9223372036854775806) (p : (List Int) → Bool) (g : Nat) (a : Nat) (os : List (Nat → Option Ob)) (ho : os.length ≠ 0) (hp : ∀ x ∈ l, ∀ b0 b1 : Nat → Option Ob, run EE g (IL x :: [.ptr 0 a 0]) (b0 :: b1 :: os) = some (.bool (p x), b0 :: b1 :: os)) (hu : (EE.H g).uniq = [] := by kernel_rfl) : run EE 92 [.slc false 1 (l.map IL), .fn g [.ptr 0 a 0]] os = some (.bool (l.any p), os) := by
 have hi := ix117_1 l hl p g a (n0 :: os) (by simp) (fun x hx b0 => hp x hx b0 n0) hu
 rw [run_eq EE 92 _ _ Tryz.func92 (by decide +kernel) rfl (show 2 ≤ _ by decide)]
 dsimp only [Tryz.f92]
 simp only [go_sem, ho, hu, hi, Bool.not_false, Bool.true_or, Bool.and_self]
 rw [← posP_any p l 0]

theorem ix89_0 (l : List Line) (hl : l.length ≤ 9223372036854775806) (p : Line → Bool) (g : Nat) (hg : ∀ vs, EE.orc g vs = none) (hp : ∀ x ∈ l, run EE g [Line.enc x] [] = some (.bool (p x), [])) (hu : (EE.H g).uniq = [] := by kernel_rfl) : run EE 89 [.slc false 8 (l.map Line.enc), .fn g []] [] = some (.int .i64 (posP p l 0), []) := by
 rw [run_eq EE 89 _ _ Tryz.func89 (by decide +kernel) rfl (show 2 ≤ _ by decide)]
 dsimp only [Tryz.f89]
 simp only [go_sem, hg, hu, Bool.not_false, Bool.true_or, Bool.and_self]
 refine iter_inv (fun i : Nat => i ≤ l.length) (fun i => { t := upd (upd (upd (upd e0 8 (.int .i64 i)) 7 (.int .i64 l.length)) 1 (.fn g [])) 0 (.slc false 8 (l.map Line.enc)), b := n0, o := [], r := #[ResultVar.tmp 4], f := 89, n := 19 }) (fun i => some (.int .i64 (posP p (l.drop i) i), [])) (fun i => l.length - i) ?_ 0 (Nat.zero_le _)
 intro i hi ih
 by_cases h : i < l.length
 · have h1 : (i : Int) < l.length := by omega
   have w := wrap_nat (n := i) (by omega)
   have hx := hp l[i] (List.getElem_mem h)
   rw [List.drop_eq_getElem_cons h, posP]
   generalize p l[i] = q at hx ⊢
   try simp only [Rx.enc_eq, Vals.enc, Mor.enc, Sta.enc, Con.enc, Line.enc, Ans.enc, Prob.enc, Prog.enc, Ses.enc, Equ.enc, Mon.enc, Frm.enc, Mov.enc, Stp.enc, Dfa.enc, IL, I, B] at hx
   simp only [go_sem, h1, w, getD_map h, hg, hu, hx]
   cases q
   · simp only [go_sem, w, hg, hu, Bool.false_eq_true, if_false]
     exact ih (i + 1) (by omega) (by omega)
   · simp only [go_sem, if_true]
 · have h1 : ¬ (i : Int) < l.length := by omega
   rw [List.drop_eq_nil_of_le (by omega)]
   simp only [go_sem, h1, posP]
theorem cf47_0 (l : List Line) (hl : l.length ≤ 9223372036854775806) (p : Line → Bool) (g : Nat) (hg : ∀ vs, EE.orc g vs = none) (hp : ∀ x ∈ l, run EE g [Line.enc x] [] = some (.bool (p x), [])) (hu : (EE.H g).uniq = [] := by kernel_rfl) : run EE 47 [.slc false 8 (l.map Line.enc), .fn g []] [] = some (.bool (l.any p), []) := by
 have hi := ix89_0 l hl p g hg hp hu
 rw [run_eq EE 47 _ _ Tryz.func47 (by decide +kernel) rfl (show 2 ≤ _ by decide)]
 dsimp only [Tryz.f47]
 simp only [go_sem, hg, hu, hi, Bool.not_false, Bool.true_or, Bool.and_self]
 rw [← posP_any p l 0]
end Go.Ev
namespace Go.Ev
open Go Go.Proofs
set_option maxRecDepth 10000

theorem r97 (c : Int) (h : 0 ≤ c) (h' : c < 256) : run EE 97 [.int .u8 c] [] = some (.int .i64 (ltr c), []) := by
 rw [run_eq EE 97 _ _ Tryz.func97 (by decide +kernel) rfl (show 1 ≤ _ by decide)]
 dsimp only [Tryz.f97]
 simp only [go_sem, o119, idx_abc c h h']
theorem r106 (c : Int) : run EE 106 [.int .u8 c] [] = some (.int .i64 (ltr c), []) := by
 rw [run_eq EE 106 _ _ Tryz.func106 (by decide +kernel) rfl (show 1 ≤ _ by decide)]
 dsimp only [Tryz.f106]
 have b0 : bt ⟨#[97, 98, 99]⟩ 0 = 97 := by decide +kernel
 have b1 : bt ⟨#[97, 98, 99]⟩ 1 = 98 := by decide +kernel
 have b2 : bt ⟨#[97, 98, 99]⟩ 2 = 99 := by decide +kernel
 have hz : ByteArray.size ⟨#[97, 98, 99]⟩ = 3 := by decide
 simp only [go_sem, iter_eq, b0, hz]
 refine condL_bool (fun k => ?_) (fun k => ?_)
 · have e : c = 97 := by have := eq_of_beq k; omega
   subst e
   simp only [go_sem, ltr]
 · have e : ¬ c = 97 := by intro e; subst e; cases k
   simp only [go_sem, iter_eq, b1, hz]
   refine condL_bool (fun k => ?_) (fun k => ?_)
   · have e' : c = 98 := by have := eq_of_beq k; omega
     subst e'
     simp only [go_sem, ltr]
   · have e' : ¬ c = 98 := by intro e; subst e; cases k
     simp only [go_sem, iter_eq, b2, hz]
     refine condL_bool (fun k => ?_) (fun k => ?_)
     · have e'' : c = 99 := by have := eq_of_beq k; omega
       subst e''
       simp only [go_sem, ltr]
     · have e'' : ¬ c = 99 := by intro e; subst e; cases k
       simp only [go_sem, iter_eq, ltr, e, e', e'']
theorem r104 (a b c : Int) : run EE 104 [.int .i64 a, .int .i64 b, .int .i64 c] [] = some (.bool (decide (b ≤ a) && decide (a ≤ c)), []) := by
 rw [run_eq EE 104 _ _ Tryz.func104 (by decide +kernel) rfl (show 3 ≤ _ by decide)]
 dsimp only [Tryz.f104]
 simp only [go_sem]
 refine guardL_bool (fun k => ?_) (fun k => ?_) <;> simp only [go_sem, k, ge_iff_le, Bool.true_and, Bool.false_and] at k ⊢ <;> simp only [go_sem, k, Bool.true_and, Bool.false_and]
theorem r91 (a b c : Int) : run EE 91 [.int .i64 a, .int .i64 b, .int .i64 c] [] = some (.bool (decide (b ≤ a) && decide (a ≤ c)), []) := by
 rw [run_eq EE 91 _ _ Tryz.func91 (by decide +kernel) rfl (show 3 ≤ _ by decide)]
 dsimp only [Tryz.f91]
 simp only [go_sem]
 refine guardL_bool (fun k => ?_) (fun k => ?_) <;> simp only [go_sem, k, ge_iff_le, Bool.true_and, Bool.false_and] at k ⊢ <;> simp only [go_sem, k, Bool.true_and, Bool.false_and]
end Go.Ev
namespace Go.Ev
open Go Go.Proofs
set_option maxRecDepth 10000

theorem r95 (q n : Int) (a : Nat) (os : List (Nat → Option Ob)) (ho : os.length ≠ 0) (hob : obIn a 0 os = some (.box [.int .i64 n])) (h0 : 0 ≤ n) (h1 : n ≤ 1048576) : run EE 95 [.int .i64 q, .ptr 0 a 0] os = some (.bool (!(decide (0 ≤ q) && decide (q ≤ n - 1))), os) := by
 have w := wrap_in (n := n - 1) (by omega) (by omega)
 have f := r91 q 0 (n - 1)
 have ho' : ¬ 0 = os.length := fun e => ho e.symm
 rw [run_eq EE 95 _ _ Tryz.func95 (by decide +kernel) rfl (show 2 ≤ _ by decide)]
 dsimp only [Tryz.f95]
 simp only [go_sem, ho', hob, w, f]
theorem r93 (row : List Int) (hl : row.length ≤ 1048576) (n : Int) (a : Nat) (os : List (Nat → Option Ob)) (ho : os.length ≠ 0) (hob : obIn a 0 os = some (.box [.int .i64 n])) (h0 : 0 ≤ n) (h1 : n ≤ 1048576) : run EE 93 [IL row, .ptr 0 a 0] os = some (.bool (!rowOk n row), os) := by
 have f := cf94_1 row (by omega) (fun q => !(decide (0 ≤ q) && decide (q ≤ n - 1))) 95 a (n0 :: os) (by simp) (fun x _ b0 b1 => r95 x n a _ (by simp) (by rw [obIn_cons (by simp), obIn_cons (by simp), obIn_cons ho]; exact hob) h0 h1)
 rw [any_not] at f
 rw [run_eq EE 93 _ _ Tryz.func93 (by decide +kernel) rfl (show 2 ≤ _ by decide)]
 dsimp only [Tryz.f93]
 unfold rowOk
 cases k : ((row.length : Int) == 3)
 · simp only [go_sem, bne, k, Bool.not_false, Bool.false_and]
 · simp only [go_sem, bne, k, f, Bool.not_true, Bool.not_false, Bool.true_and]
theorem r50 (d : Dfa) (h1 : d.accept.length ≤ 1048576) (h2 : d.next.length ≤ 1048576) (h3 : ∀ r ∈ d.next, r.length ≤ 1048576) : run EE 50 [d.enc] [] = some (.bool (validD d), []) := by
 have wi := r91 d.accept.length 1 40
 rw [run_eq EE 50 _ _ Tryz.func50 (by decide +kernel) rfl (show 1 ≤ _ by decide)]
 dsimp only [Tryz.f50]
 unfold validD
 cases k1 : (decide (1 ≤ (d.accept.length : Int)) && decide ((d.accept.length : Int) ≤ 40))
 · rw [k1] at wi
   simp only [go_sem, wi, Bool.not_false, Bool.false_and]
 rw [k1] at wi
 cases k2 : ((d.next.length : Int) == d.accept.length)
 · simp only [go_sem, wi, bne, k2, Bool.not_true, Bool.not_false, Bool.true_and, Bool.false_and]
 have f := fun (b : Nat → Option Ob) (hb : b 3 = some (.box [.int .i64 (d.accept.length : Int)])) => cf92_1 d.next (by omega) (fun row => !rowOk d.accept.length row) 93 3 [b] (by simp) (fun x hx b0 b1 => r93 x (h3 x hx) d.accept.length 3 _ (by simp) hb (by omega) (by omega))
 simp only [any_not] at f
 simp only [go_sem, wi, bne, k2, Bool.not_true, Bool.not_false, Bool.true_and]
 rw [f _ rfl]
 simp only [go_sem, Bool.not_not]
end Go.Ev
namespace Go.Ev
open Go Go.Proofs
set_option maxRecDepth 10000

theorem r67 (d : Dfa) (h1 : d.accept.length ≤ 1048576) (h2 : d.next.length ≤ 1048576) (h3 : ∀ r ∈ d.next, r.length ≤ 1048576) : run EE 67 [d.enc] [] = some (.bool (validD d), []) := by
 have wi := r104 d.accept.length 1 40
 rw [run_eq EE 67 _ _ Tryz.func67 (by decide +kernel) rfl (show 1 ≤ _ by decide)]
 dsimp only [Tryz.f67]
 unfold validD
 cases k1 : (decide (1 ≤ (d.accept.length : Int)) && decide ((d.accept.length : Int) ≤ 40))
 · rw [k1] at wi
   simp only [go_sem, wi, Bool.not_false, Bool.false_and]
 rw [k1] at wi
 cases k2 : ((d.next.length : Int) == d.accept.length)
 · simp only [go_sem, wi, bne, k2, Bool.not_true, Bool.not_false, Bool.true_and, Bool.false_and]
 simp only [go_sem, wi, bne, k2, Bool.not_true, Bool.not_false, Bool.true_and]
 have hn : d.next.length = d.accept.length := by have := eq_of_beq k2; omega
 have hpos : 1 ≤ d.accept.length := by
   have := (Bool.and_eq_true_iff.1 k1).1
   have := of_decide_eq_true this
   omega
 have w0 : IntKind.i64.wrap ((d.accept.length : Int) - 1) = (d.accept.length : Int) - 1 := wrap_in (by omega) (by omega)
 refine iter_inv (fun i : Nat => i ≤ d.next.length) (fun i => { t := upd (upd (upd e0 4 (.int .i64 i)) 3 (.int .i64 d.accept.length)) 1 (.ptr 0 1 0), b := upd n0 1 (some (Ob.box [.slc false 1 (d.accept.map B), .slc false 1 (d.next.map IL)])), o := [], r := #[ResultVar.tmp 2], f := 67, n := 53 }) (fun i => some (.bool ((d.next.drop i).all (rowOk d.accept.length)), [])) (fun i => d.next.length - i) ?_ 0 (Nat.zero_le _)
 intro i hi ih
 by_cases h : i < d.next.length
 rotate_left
 · have k1 : ¬ (i : Int) < d.accept.length := by omega
   rw [List.drop_eq_nil_of_le (by omega)]
   simp only [go_sem, k1, List.all_nil]
 have k1' : (i : Int) < d.accept.length := by omega
 have k1'' : (i : Int) < d.next.length := by omega
 have w := wrap_nat (n := i) (by omega)
 have hr := h3 d.next[i] (List.getElem_mem h)
 rw [List.drop_eq_getElem_cons h, List.all_cons]
 have ihn := ih (i + 1) (by omega) (by omega)
 clear ih
 generalize hrow : d.next[i] = row at hr ⊢
 have hget : ∀ dd : V, (d.next.map IL).getD i dd = IL row := fun dd => by rw [getD_map h, hrow]
 unfold rowOk
 cases k3 : ((row.length : Int) == 3)
 · simp only [go_sem, k1', k1'', hget, bne, k3, Bool.not_false, Bool.false_and]
 simp only [go_sem, k1', k1'', hget, bne, k3, Bool.not_true, Bool.true_and]
 refine iter_inv (fun j : Nat => j ≤ row.length) (fun j => { t := upd (upd (upd (upd e0 5 (.int .i64 j)) 4 (.int .i64 i)) 3 (.int .i64 d.accept.length)) 1 (.ptr 0 1 0), b := upd n0 1 (some (Ob.box [.slc false 1 (d.accept.map B), .slc false 1 (d.next.map IL)])), o := [], r := #[ResultVar.tmp 2], f := 67, n := 53 }) (fun j => some (.bool ((row.drop j).all (fun q => decide (0 ≤ q) && decide (q ≤ (d.accept.length : Int) - 1)) && (d.next.drop (i + 1)).all (rowOk d.accept.length)), [])) (fun j => row.length - j) ?_ 0 (Nat.zero_le _)
 intro j hj ih2
 by_cases hjl : j < row.length
 · have j1 : (j : Int) < row.length := by omega
   have wj := wrap_nat (n := j) (by omega)
   rw [List.drop_eq_getElem_cons hjl, List.all_cons]
   have f := r104 row[j] 0 ((d.accept.length : Int) - 1)
   generalize hq : row[j] = q at f ⊢
   have hget2 : ∀ dd : V, (row.map I).getD j dd = I q := fun dd => by rw [getD_map hjl, hq]
   cases c : (decide (0 ≤ q) && decide (q ≤ (d.accept.length : Int) - 1))
   · rw [c] at f
     simp only [go_sem, k1'', hget, hget2, j1, w0, f, Bool.not_false, Bool.false_and]
   · rw [c] at f
     simp only [go_sem, k1'', hget, hget2, j1, w0, wj, f, Bool.not_true, Bool.true_and]
     exact ih2 (j + 1) (by omega) (by omega)
 · have j1 : ¬ (j : Int) < row.length := by omega
   rw [List.drop_eq_nil_of_le (by omega), List.all_nil, Bool.true_and]
   simp only [go_sem, k1', k1'', hget, j1, w]
   exact ihn
theorem r84 (l : List Int) (hl : l.length ≤ 1048576) (n : Int) : run EE 84 [.slc false 1 (l.map I), .int .i64 n] [] = some (.int .i64 (posP (fun x => x == n) l 0), []) := by
 rw [run_eq EE 84 _ _ Tryz.func84 (by decide +kernel) rfl (show 2 ≤ _ by decide)]
 dsimp only [Tryz.f84]
 simp only [go_sem]
 refine iter_inv (fun i : Nat => i ≤ l.length) (fun i => { t := upd (upd (upd e0 5 (.int .i64 i)) 1 (.int .i64 n)) 0 (.slc false 1 (l.map I)), b := n0, o := [], r := #[ResultVar.tmp 4], f := 84, n := 19 }) (fun i => some (.int .i64 (posP (fun x => x == n) (l.drop i) i), [])) (fun i => l.length - i) ?_ 0 (Nat.zero_le _)
 intro i hi ih
 by_cases h : i < l.length
 · have h1 : (i : Int) < l.length := by omega
   have w := wrap_nat (n := i) (by omega)
   rw [List.drop_eq_getElem_cons h, posP]
   cases c : (l[i] == n)
   · simp only [go_sem, h1, w, getD_map h, c, Bool.false_eq_true, if_false]
     exact ih (i + 1) (by omega) (by omega)
   · simp only [go_sem, h1, w, getD_map h, c, if_true]
 · have h1 : ¬ (i : Int) < l.length := by omega
   rw [List.drop_eq_nil_of_le (by omega)]
   simp only [go_sem, h1, posP]
end Go.Ev
namespace Go.Ev
open Go Go.Proofs
set_option maxRecDepth 10000

theorem r130 (d : DN) (ho : d.ok) (c : List Nat) (hc : c.length = d.accept.length) (p q : Nat) (hp : p < c.length) (hq : q < c.length) (hn : c.length ≤ 1048576) : run EE 130 [d.enc, .slc false 1 (c.map IN), .int .i64 p, .int .i64 q] [] = some (.bool (sameC d c p q), []) := by
 have p1 : (p : Int) < c.length := by omega
 have q1 : (q : Int) < c.length := by omega
 have p2 : (p : Int) < d.next.length := by rw [ho.1]; omega
 have q2 : (q : Int) < d.next.length := by rw [ho.1]; omega
 have p3 : p < d.next.length := by rw [ho.1]; omega
 have q3 : q < d.next.length := by rw [ho.1]; omega
 obtain ⟨a1, a2, a3⟩ := DN.nx_lt ho (q := p) (by omega)
 obtain ⟨b1, b2, b3⟩ := DN.nx_lt ho (q := q) (by omega)
 rw [← hc] at a1 a2 a3 b1 b2 b3
 have a1' : ((d.nx p).1 : Int) < c.length := by omega
 have a2' : ((d.nx p).2.1 : Int) < c.length := by omega
 have a3' : ((d.nx p).2.2 : Int) < c.length := by omega
 have b1' : ((d.nx q).1 : Int) < c.length := by omega
 have b2' : ((d.nx q).2.1 : Int) < c.length := by omega
 have b3' : ((d.nx q).2.2 : Int) < c.length := by omega
 rw [run_eq EE 130 _ _ Tryz.func130 (by decide +kernel) rfl (show 4 ≤ _ by decide)]
 dsimp only [Tryz.f130]
 simp only [go_sem]
 rw [q_drs]
 rotate_left
 · kernel_rfl
 simp only [go_sem, p1, q1, getD_IN hp, getD_IN hq, nat_beq]
 unfold sameC
 generalize (cl c p == cl c q) = s0
 simp only [iter_eq, go_sem]
 rw [q_drs]
 rotate_left
 · kernel_rfl
 have step : ∀ (x y : Nat) (s0 : Bool), V.ite s0 (.bool s0) (.bool false) = .bool s0 := by intro _ _ s0; cases s0 <;> rfl
 cases s0
 · simp only [go_sem, iter_eq, Bool.false_and]
   rw [q_drs]
   rotate_left
   · kernel_rfl
   simp only [go_sem, iter_eq]
   rw [q_drs]
   rotate_left
   · kernel_rfl
   simp only [go_sem, iter_eq]
 simp only [go_sem, iter_eq, p2, q2, getD_NT p3, getD_NT q3, a1', b1', getD_IN a1, getD_IN b1, nat_beq, Bool.true_and]
 rw [q_drs]
 rotate_left
 · kernel_rfl
 cases k1 : (cl c (d.nx p).1 == cl c (d.nx q).1)
 · simp only [go_sem, iter_eq, Bool.false_and]
   rw [q_drs]
   rotate_left
   · kernel_rfl
   simp only [go_sem, iter_eq]
 simp only [go_sem, iter_eq, p2, q2, getD_NT p3, getD_NT q3, a2', b2', getD_IN a2, getD_IN b2, nat_beq, Bool.true_and]
 rw [q_drs]
 rotate_left
 · kernel_rfl
 cases k2 : (cl c (d.nx p).2.1 == cl c (d.nx q).2.1)
 · simp only [go_sem, iter_eq, Bool.false_and]
 simp only [go_sem, iter_eq, p2, q2, getD_NT p3, getD_NT q3, a3', b3', getD_IN a3, getD_IN b3, nat_beq, Bool.true_and]
end Go.Ev
namespace Go.Ev
open Go Go.Proofs
set_option maxRecDepth 10000

theorem r108 (d : DN) (ho : d.ok) (hn : d.accept.length ≤ 1048576) : run EE 108 [d.enc] [] = some (.slc false 1 ((rounds d (d.accept.length + 1) (class0 d)).map IN), []) := by
 have h8 : (d.accept.length : Int) * 8 ≤ 140737488355328 := by omega
 rw [run_eq EE 108 _ _ Tryz.func108 (by decide +kernel) rfl (show 1 ≤ _ by decide)]
 dsimp only [Tryz.f108]
 simp only [go_sem, h8]
 refine (iter_inv (fun i : Nat => i ≤ d.accept.length) (fun i => { t := upd (upd (upd (upd e0 5 (.int .i64 i)) 4 (.aref 0 14 d.accept.length)) 3 (.int .i64 d.accept.length)) 1 (.ptr 0 1 0), b := upd (upd n0 14 (some (Ob.arr false 1 (fill C0 d.accept (.int .i64 0) i)))) 1 (some (Ob.box [.slc false 1 (d.accept.map B), .slc false 1 (d.next.map NT)])), o := [], r := #[ResultVar.tmp 2], f := 108, n := 60 }) (fun _ => some (.slc false 1 ((rounds d (d.accept.length + 1) (class0 d)).map IN), [])) (fun i => d.accept.length - i) ?_ 0 (Nat.zero_le _))
 intro i hi ih
 by_cases h : i < d.accept.length
 · have h1 : (i : Int) < d.accept.length := by omega
   have w := wrap_nat (n := i) (by omega)
   have ihn := ih (i + 1) (by omega) (by omega)
   cases hb : d.accept[i]
   · rw [← fill_same _ _ _ h (by rw [hb]; rfl)] at ihn
     simp only [go_sem, h1, w, getD_map h, hb]
     exact ihn
   · rw [← fill_set _ _ _ h (.int .i64 1) (by rw [hb]; rfl)] at ihn
     have hl := fill_len C0 d.accept (.int .i64 0) hi
     simp only [go_sem, h1, w, getD_map h, hb, hl, h]
     exact ihn
 have h1 : ¬ (i : Int) < d.accept.length := by omega
 obtain rfl : i = d.accept.length := by omega
 clear ih
 have hl0 := fill_len C0 d.accept (.int .i64 0) (Nat.le_refl _)
 simp only [go_sem, h1, hl0, fill_all]
 rw [class0_C0]
 have hc0 : (class0 d).length = d.accept.length := by simp [class0]
 refine (iter_inv (fun x : Nat × List Nat => x.1 ≤ d.accept.length + 1 ∧ x.2.length = d.accept.length) (fun x => { t := upd (upd (upd (upd e0 6 (.int .i64 x.1)) 4 (.slc false 1 (x.2.map IN))) 3 (.int .i64 d.accept.length)) 1 (.ptr 0 1 0), b := upd n0 1 (some (Ob.box [.slc false 1 (d.accept.map B), .slc false 1 (d.next.map NT)])), o := [], r := #[ResultVar.tmp 2], f := 108, n := 60 }) (fun x => some (.slc false 1 ((rounds d (d.accept.length + 1 - x.1) x.2).map IN), [])) (fun x => d.accept.length + 1 - x.1) ?_ (0, class0 d) ⟨Nat.zero_le _, hc0⟩)
 rintro ⟨r, c⟩ ⟨hr, hc⟩ ih
 dsimp only at hr hc ⊢
 by_cases hrl : r ≤ d.accept.length
 rotate_left
 · have k : ¬ (r : Int) ≤ d.accept.length := by omega
   have e : d.accept.length + 1 - r = 0 := by omega
   rw [e]
   simp only [go_sem, k, rounds]
 have k : (r : Int) ≤ d.accept.length := by omega
 have wr := wrap_nat (n := r) (by omega)
 have ihr := ih (r + 1, refine d c) ⟨by show r + 1 ≤ _; omega, refine_len d c⟩ (by show d.accept.length + 1 - (r + 1) < d.accept.length + 1 - r; omega)
 clear ih
 have e : d.accept.length + 1 - r = (d.accept.length + 1 - (r + 1)) + 1 := by omega
 rw [e, rounds]
 generalize (some (V.slc false 1 ((rounds d (d.accept.length + 1 - (r + 1)) (refine d c)).map IN), ([] : List (Nat → Option Ob)))) = RES at ihr ⊢
 have hrl0 : (List.range d.accept.length).length = d.accept.length := List.length_range
 simp only [go_sem, k, h8]
 have f0 : List.replicate d.accept.length (V.int .i64 0) = fill (LV d c) (List.range d.accept.length) (.int .i64 0) 0 := by rw [fill_zero, hrl0]
 rw [f0]
 refine iter_inv (fun q : Nat => q ≤ d.accept.length) (fun q => { t := upd (upd (upd (upd (upd (upd e0 8 (.int .i64 q)) 7 (.aref 0 34 d.accept.length)) 6 (.int .i64 r)) 4 (.slc false 1 (c.map IN))) 3 (.int .i64 d.accept.length)) 1 (.ptr 0 1 0), b := upd (upd n0 34 (some (Ob.arr false 1 (fill (LV d c) (List.range d.accept.length) (.int .i64 0) q)))) 1 (some (Ob.box [.slc false 1 (d.accept.map B), .slc false 1 (d.next.map NT)])), o := [], r := #[ResultVar.tmp 2], f := 108, n := 60 }) (fun _ => RES) (fun q => d.accept.length - q) ?_ 0 (Nat.zero_le _)
 intro q hq ihq
 have hfl := fill_len (LV d c) (List.range d.accept.length) (.int .i64 0) (i := q) (by rw [hrl0]; exact hq)
 rw [hrl0] at hfl
 by_cases hql : q < d.accept.length
 rotate_left
 · have k' : ¬ (q : Int) < d.accept.length := by omega
   obtain rfl : q = d.accept.length := by omega
   have fa := fill_all (LV d c) (List.range d.accept.length) (.int .i64 0)
   rw [hrl0, refine_LV] at fa
   simp only [go_sem, k', hfl, fa, wr, refine_len]
   exact ihr
 have k' : (q : Int) < d.accept.length := by omega
 have wq := wrap_nat (n := q) (by omega)
 have ihn := ihq (q + 1) (by omega) (by omega)
 clear ihq
 have hset : ∀ v, v = LV d c q → (fill (LV d c) (List.range d.accept.length) (.int .i64 0) q).set q v = fill (LV d c) (List.range d.accept.length) (.int .i64 0) (q + 1) := fun v hv => fill_set (LV d c) (List.range d.accept.length) (.int .i64 0) (by rw [hrl0]; exact hql) v (by rw [hv]; simp)
 simp only [go_sem, k', hfl, hql]
 refine iter_inv (fun p : Nat => p ≤ q ∧ firstS (fun p => sameC d c p q) q (q - p) = lead d c q) (fun p => { t := upd (upd (upd (upd (upd (upd (upd e0 9 (.int .i64 p)) 8 (.int .i64 q)) 7 (.aref 0 34 d.accept.length)) 6 (.int .i64 r)) 4 (.slc false 1 (c.map IN))) 3 (.int .i64 d.accept.length)) 1 (.ptr 0 1 0), b := upd (upd n0 34 (some (Ob.arr false 1 ((fill (LV d c) (List.range d.accept.length) (.int .i64 0) q).set q (.int .i64 q))))) 1 (some (Ob.box [.slc false 1 (d.accept.map B), .slc false 1 (d.next.map NT)])), o := [], r := #[ResultVar.tmp 2], f := 108, n := 60 }) (fun _ => RES) (fun p => q - p) ?_ 0 ⟨Nat.zero_le _, rfl⟩
 rintro p ⟨hp, hf⟩ ihp
 by_cases hpl : p < q
 rotate_left
 · have k2 : ¬ (p : Int) < q := by omega
   obtain rfl : p = q := by omega
   rw [Nat.sub_self, firstS_zero] at hf
   rw [hset _ (by unfold LV; rw [← hf]; rfl)]
   simp only [go_sem, k2, wq]
   exact ihn
 have k2 : (p : Int) < q := by omega
 have wp := wrap_nat (n := p) (by omega)
 have sm := r130 d ho c hc p q (by omega) (by omega) (by omega)
 have e2 : q - p = (q - (p + 1)) + 1 := by omega
 rw [e2, firstS_succ] at hf
 have e3 : q - (q - (p + 1) + 1) = p := by omega
 rw [e3] at hf
 simp only [DN.enc] at sm
 cases hs : sameC d c p q
 · rw [hs] at sm hf
   simp only [go_sem, k2, sm, wp]
   exact ihp (p + 1) ⟨by omega, by simpa using hf⟩ (by omega)
 · rw [hs, if_pos rfl] at hf
   rw [hs] at sm
   have hfl2 : q < ((fill (LV d c) (List.range d.accept.length) (.int .i64 0) q).set q (.int .i64 q)).length := by rw [List.length_set, hfl]; exact hql
   simp only [go_sem, k', k2, sm, hfl2, hfl, hql, List.set_set, wq]
   rw [hset (.int .i64 p) (by unfold LV; rw [← hf]; rfl)]
   exact ihn
end Go.Ev
