/- What the evaluator is told of the functions, printed by a program. Searches. Leaves: letters, ranges. Automata: validity. Automata: the reference's validity, searches in lists. Automata: the reference's classes. -/
import Derived.Test.YtbdciemhapmhcaaEvR
import Derived.Test.YtbdciemhapmhcaaEvM
import Derived.Test.YtbdciemhapmhcaaEvN
set_option linter.unusedVariables false
set_option linter.unusedSimpArgs false
namespace Go.Ev
open Go Go.Proofs
def hints : List (Nat × Hint) := [(3, ⟨[24, 33, 80], [6, 8, 9, 14], [], [], [], [32], [], [], [], [], [36, 41, 51, 61, 89], [55, 71, 74, 98]⟩),
  (4, ⟨[24, 33, 80], [6, 8, 9, 14], [], [], [], [32], [], [], [], [], [36, 41, 51, 61, 89], [55, 71, 74, 98]⟩),
  (5, ⟨[26, 36, 84], [6, 8, 9, 14], [], [], [(8, [0, 1, 2, 3, 4, 5, 6, 8, 9, 7, 10]), (10, [0, 1, 2, 3, 4, 5, 7, 8, 6, 9]), (27, [0, 1, 2, 3, 4, 5, 6, 8, 9, 7, 10])], [35], [], [], [], [32, 41, 90], [40, 45, 55, 65, 94], [59, 75, 78, 103]⟩),
  (7, ⟨[25, 37, 92], [], [], [], [], [], [], [], [], [], [], []⟩),
  (8, ⟨[4, 17], [], [], [], [], [], [], [], [], [], [], []⟩),
  (9, ⟨[28], [6], [⟨0, [1, 2, 4, 6, 7], [2, 4, 6, 430, 431]⟩], [], [], [20], [], [], [], [], [45], []⟩),
  (10, ⟨[6, 10, 12], [], [], [], [], [12], [], [], [], [], [], []⟩),
  (11, ⟨[27, 40], [], [⟨0, [1, 2, 4, 6, 22, 23], [2, 4, 6]⟩], [], [(7, [0, 2, 3, 4, 5, 6, 7, 8, 9, 10, 1, 11, 12, 13])], [41], [], [], [], [], [], []⟩),
  (13, ⟨[4, 13], [], [], [], [], [], [], [], [], [], [], [8, 12]⟩),
  (14, ⟨[4, 17], [], [], [], [], [], [], [], [], [], [], [8, 14]⟩),
  (15, ⟨[8], [], [], [], [], [20], [], [], [], [], [], []⟩),
  (16, ⟨[], [], [], [], [], [19], [], [], [], [], [], []⟩),
  (17, ⟨[4, 26], [], [], [], [], [], [], [], [], [], [], []⟩),
  (18, ⟨[33], [6], [⟨0, [2, 3, 4, 6, 7], [2, 3, 4, 6, 439, 440]⟩, ⟨2, [2, 3, 4, 6, 7, 8], [2, 3, 4, 6, 439, 440]⟩], [], [], [21], [], [], [], [], [54], []⟩),
  (20, ⟨[27], [], [⟨0, [2, 3, 4, 6, 22, 23], [2, 3, 4, 6]⟩], [], [(7, [0, 2, 3, 4, 5, 6, 7, 8, 9, 10, 11, 12, 13, 14, 15, 16, 17, 18, 1, 19, 20, 21])], [49], [], [], [], [], [], []⟩),
  (21, ⟨[4, 23], [], [], [], [], [], [], [], [], [], [], []⟩),
  (22, ⟨[4, 25], [], [], [], [], [], [], [], [], [], [], []⟩),
  (23, ⟨[4, 5, 16, 47, 89, 104], [], [⟨0, [2, 3, 5, 6, 7], [2, 3]⟩, ⟨2, [2, 3, 5, 6, 7, 8, 9, 10], [2, 3]⟩], [], [], [], [], [], [], [], [], []⟩),
  (26, ⟨[4, 122], [], [⟨0, [3, 5, 7, 8, 54, 55, 56], [2, 3, 5, 7, 8]⟩, ⟨2, [3, 5, 7, 8, 11, 13, 14, 54, 55, 56, 99, 100], [2, 3, 5, 7, 8, 10, 11, 12]⟩], [], [], [], [], [], [], [], [], []⟩),
  (27, ⟨[], [], [⟨0, [0, 1, 5], []⟩], [], [], [], [], [], [], [], [], []⟩),
  (30, ⟨[4, 13], [], [], [], [], [], [], [], [], [], [], []⟩),
  (31, ⟨[4, 9], [], [], [], [], [], [], [], [], [], [], []⟩),
  (32, ⟨[4, 56], [], [⟨0, [0, 1, 5], []⟩], [], [], [], [], [], [], [], [], []⟩),
  (33, ⟨[4, 66], [], [⟨0, [0, 1, 5], []⟩], [], [], [], [], [], [], [], [], []⟩),
  (34, ⟨[4, 11], [], [], [], [], [], [], [], [], [], [], []⟩),
  (35, ⟨[47], [], [⟨0, [1, 2, 4, 6, 7], [2, 4, 6]⟩], [], [], [], [], [], [], [], [], []⟩),
  (37, ⟨[2, 21], [], [⟨0, [0, 3, 4], [7]⟩], [], [], [], [], [], [], [7, 21], [], []⟩),
  (38, ⟨[], [], [⟨0, [1, 2, 4, 6, 13, 14, 15], [2, 4]⟩], [], [], [], [], [], [], [], [], []⟩),
  (40, ⟨[], [], [⟨0, [0, 1, 5], []⟩], [], [], [], [], [], [], [], [], []⟩),
  (41, ⟨[4, 9], [], [], [], [], [], [], [], [], [], [], []⟩),
  (42, ⟨[4, 18], [], [⟨0, [0, 1, 5], []⟩], [], [], [], [], [], [], [], [], []⟩),
  (43, ⟨[4, 11], [], [], [], [], [], [], [], [], [], [], []⟩),
  (44, ⟨[4, 11], [], [], [], [], [], [], [], [], [], [], []⟩),
  (45, ⟨[4, 26], [], [⟨0, [0, 1, 5], []⟩], [], [], [], [], [], [], [], [], []⟩),
  (46, ⟨[], [], [⟨0, [1, 3, 4], [1]⟩, ⟨2, [1, 3, 4, 5], [1]⟩], [], [], [], [], [], [], [], [], []⟩),
  (47, ⟨[2], [], [⟨0, [0, 3], []⟩], [], [], [], [], [], [], [], [], []⟩),
  (48, ⟨[18, 29], [], [⟨0, [1, 2, 3, 4], [1, 2, 3]⟩], [], [(5, [0, 2, 3, 4, 5, 6, 7, 8, 9, 1, 10, 11, 12])], [8, 25], [], [], [], [26, 27], [], []⟩),
  (49, ⟨[6, 45], [], [⟨0, [2, 3, 8, 9], [3]⟩], [], [], [], [], [], [], [], [], []⟩),
  (50, ⟨[4, 7, 46, 50, 57, 70, 71, 75], [], [⟨0, [1, 2, 3, 4, 5, 6], [1, 2, 5]⟩, ⟨2, [1, 2, 3, 4, 5, 6, 7, 8], [1, 2, 5]⟩], [], [(15, [0, 2, 3, 4, 5, 6, 7, 8, 9, 10, 1, 11, 12, 13])], [55, 67], [], [], [], [72, 73], [], []⟩),
  (51, ⟨[2, 21], [], [⟨0, [0, 3, 4], [7]⟩], [], [], [], [], [], [], [7, 21], [], []⟩),
  (52, ⟨[2, 20, 22], [], [⟨0, [0, 3, 4], [7]⟩], [], [], [], [], [], [], [7, 22], [], []⟩),
  (53, ⟨[2], [], [], [], [], [], [], [], [], [], [], []⟩),
  (54, ⟨[2], [], [], [], [], [], [], [], [], [], [], []⟩),
  (55, ⟨[6, 25], [], [⟨0, [1, 2, 3, 7], [3]⟩], [], [], [], [], [], [], [], [], []⟩),
  (56, ⟨[5, 27, 33, 60, 72, 133, 167, 185, 210, 223, 236, 237, 242], [79, 99], [⟨0, [2, 4, 5, 6, 7], [2, 4, 38]⟩, ⟨2, [2, 4, 5, 6, 7, 54, 55, 56], [2, 4, 38]⟩, ⟨4, [2, 4, 5, 6, 12, 80, 81, 82], [2, 4, 38, 79]⟩, ⟨6, [2, 4, 5, 6, 12, 15], [2, 4, 38]⟩, ⟨8, [2, 4, 5, 6, 12, 15, 16, 17, 100, 101, 102], [2, 4, 38, 96, 99]⟩, ⟨10, [2, 4, 5, 6, 12, 15, 16, 17, 18, 20, 100, 101, 102, 116, 117, 118], [2, 4, 20, 38, 96, 99]⟩, ⟨12, [2, 4, 5, 6, 12, 25, 26, 27, 163, 164], [2, 4, 25, 38, 160]⟩, ⟨14, [2, 4, 5, 6, 12, 25, 26, 190, 191, 192], [2, 4, 25, 38, 160]⟩, ⟨16, [2, 4, 5, 6, 12, 25, 26, 32, 33, 190, 191, 192, 204, 205, 206], [2, 4, 25, 38, 160]⟩], [], [(61, [0, 2, 3, 4, 5, 6, 7, 8, 9, 10, 1, 11, 12, 13])], [220, 233], [], [], [], [238, 239], [], []⟩),
  (57, ⟨[], [], [⟨0, [0, 1, 5], []⟩], [], [], [], [], [], [], [], [], []⟩),
  (58, ⟨[], [], [⟨0, [0, 1, 5], []⟩], [], [], [], [], [], [], [], [], []⟩),
  (59, ⟨[4, 20], [], [⟨0, [0, 1, 5], []⟩], [], [], [], [], [], [], [], [], []⟩),
  (60, ⟨[4, 18], [], [⟨0, [0, 1, 5], []⟩], [], [], [], [], [], [], [], [], [17]⟩),
  (61, ⟨[4, 22], [], [⟨0, [0, 1, 5], []⟩], [], [], [], [], [], [], [], [], []⟩),
  (62, ⟨[4, 20], [], [⟨0, [0, 1, 5], []⟩], [], [], [], [], [], [], [], [], [17]⟩),
  (63, ⟨[7, 22, 38, 50], [], [⟨0, [1, 2, 4, 5, 6], [2, 4, 5]⟩, ⟨2, [1, 2, 4, 5, 6, 7, 8], [2, 4, 5]⟩], [], [(9, [1, 2, 3, 4, 5, 6, 7, 8, 9, 10, 11, 12, 13, 0, 14, 15]), (10, [0, 2, 3, 4, 5, 6, 7, 8, 9, 1, 10, 11, 12])], [], [], [], [], [], [], []⟩),
  (64, ⟨[2], [], [], [], [], [], [], [], [], [], [], []⟩),
  (65, ⟨[4, 44], [], [⟨0, [1, 2, 5, 6], [2]⟩], [], [], [], [], [], [], [], [], []⟩),
  (66, ⟨[], [], [⟨0, [11, 12, 13], [1]⟩], [], [], [], [], [], [], [], [], []⟩),
  (67, ⟨[4, 19], [], [], [], [], [], [], [], [], [], [], []⟩),
  (68, ⟨[4, 23], [], [], [], [], [], [], [], [], [], [], []⟩),
  (69, ⟨[4, 11], [], [], [], [], [], [], [], [], [], [], []⟩),
  (70, ⟨[], [], [⟨0, [5, 6], [2, 3]⟩], [], [], [], [], [], [], [], [], []⟩),
  (71, ⟨[2], [], [], [], [], [], [], [], [], [], [], []⟩),
  (72, ⟨[2], [], [], [], [], [], [], [], [], [], [], []⟩),
  (73, ⟨[], [8], [], [], [], [23], [], [], [], [], [], []⟩),
  (74, ⟨[6], [], [], [], [], [], [], [], [], [], [], []⟩),
  (77, ⟨[3], [], [], [], [], [], [], [], [], [], [], []⟩),
  (78, ⟨[6], [], [], [], [], [], [], [], [], [], [], []⟩),
  (79, ⟨[2], [], [], [], [], [], [], [], [], [], [], []⟩),
  (80, ⟨[4], [], [], [], [], [], [], [], [], [], [], []⟩),
  (81, ⟨[], [], [⟨0, [0, 3], []⟩], [], [], [], [], [], [], [], [], []⟩),
  (82, ⟨[2, 5, 59, 74, 87], [], [⟨0, [5, 49, 50, 51], [1]⟩], [], [], [], [], [], [], [], [], []⟩),
  (83, ⟨[4], [], [], [], [], [], [], [], [], [], [], []⟩),
  (85, ⟨[7, 15], [7], [], [], [], [10], [21], [], [], [], [], []⟩),
  (86, ⟨[2], [], [], [], [], [7], [], [], [], [], [], []⟩),
  (87, ⟨[2], [], [], [], [], [], [], [], [], [], [], []⟩),
  (91, ⟨[4, 17], [], [], [], [], [], [], [], [], [], [], []⟩),
  (92, ⟨[2], [], [⟨0, [0, 3], []⟩], [], [], [], [], [], [], [], [], []⟩),
  (93, ⟨[4, 20], [], [⟨0, [0, 1, 5], []⟩], [], [], [], [], [], [], [], [], []⟩),
  (94, ⟨[4, 26], [], [⟨0, [0, 1, 5], []⟩], [], [], [], [], [], [], [], [], []⟩),
  (95, ⟨[2], [], [⟨0, [1, 3], [1]⟩], [], [], [], [], [], [], [], [], []⟩),
  (96, ⟨[6], [], [], [], [], [], [], [], [], [], [], []⟩),
  (98, ⟨[2, 22], [7], [⟨0, [0, 3, 4], [7]⟩], [], [], [], [], [], [], [], [], []⟩),
  (99, ⟨[2], [], [], [], [], [], [], [], [], [], [], []⟩),
  (100, ⟨[16], [], [⟨0, [2, 4, 5, 9, 10, 11], [2, 4, 5]⟩], [], [], [], [], [], [], [], [], []⟩),
  (101, ⟨[], [], [⟨0, [0, 1, 5], []⟩], [], [], [], [], [], [], [], [], []⟩),
  (102, ⟨[4, 74], [], [⟨0, [0, 1, 5], []⟩], [], [], [], [], [], [], [], [], []⟩),
  (103, ⟨[4, 90], [], [⟨0, [0, 1, 5], []⟩], [], [], [], [], [], [], [], [], []⟩),
  (104, ⟨[2, 12], [], [⟨0, [0, 3], []⟩], [], [], [], [], [], [], [], [], []⟩),
  (105, ⟨[2, 59], [14, 34], [⟨0, [1, 3, 4, 5], [1, 14]⟩, ⟨2, [1, 3, 4, 6], [1]⟩, ⟨4, [1, 3, 4, 6, 7, 8], [1, 34]⟩, ⟨6, [1, 3, 4, 6, 7, 8, 9], [1, 34]⟩], [], [], [], [], [], [], [], [], []⟩),
  (106, ⟨[4, 18], [], [⟨0, [0, 1, 5], []⟩], [], [], [], [], [], [], [], [], []⟩),
  (107, ⟨[4], [], [], [], [], [], [], [], [], [], [], []⟩),
  (108, ⟨[3], [], [], [], [], [], [], [], [], [], [], []⟩),
  (109, ⟨[3], [], [], [], [], [], [], [], [], [], [], []⟩),
  (110, ⟨[], [], [⟨0, [0, 3], []⟩], [], [], [], [], [], [], [], [], []⟩),
  (111, ⟨[4, 8, 12], [], [], [], [], [], [], [], [], [], [], []⟩),
  (112, ⟨[2], [], [], [], [], [], [], [], [], [], [], []⟩),
  (113, ⟨[], [], [⟨0, [1, 3, 4], [1]⟩], [], [], [], [], [], [], [], [], []⟩),
  (114, ⟨[], [], [⟨0, [0, 1, 5], []⟩], [], [], [], [], [], [], [], [], []⟩),
  (115, ⟨[2], [], [⟨0, [0, 3], []⟩], [], [], [], [], [], [], [], [], []⟩),
  (116, ⟨[], [], [⟨0, [1, 2, 3], [1, 2]⟩], [], [], [], [], [], [], [], [], []⟩),
  (117, ⟨[2], [], [], [], [], [], [], [], [], [], [], []⟩),
  (118, ⟨[4, 5, 10, 11, 23, 32], [], [], [], [], [], [], [], [], [], [], []⟩),
  (120, ⟨[2], [], [], [], [], [], [], [], [], [], [], []⟩),
  (121, ⟨[3], [], [], [], [], [], [], [], [], [], [], []⟩),
  (122, ⟨[4], [], [], [], [], [], [], [], [], [], [], []⟩),
  (123, ⟨[4, 17], [], [⟨0, [0, 1, 7, 8], []⟩], [], [], [], [], [], [], [], [], []⟩),
  (124, ⟨[2], [], [], [], [], [], [], [], [], [], [], []⟩),
  (125, ⟨[], [], [⟨0, [1, 2], [1, 2]⟩], [], [], [], [], [], [], [], [], []⟩),
  (126, ⟨[2], [], [], [], [], [], [], [], [], [], [], []⟩),
  (127, ⟨[4], [], [], [], [], [], [], [], [], [], [], []⟩),
  (128, ⟨[6], [], [], [], [], [], [], [], [], [], [], []⟩),
  (130, ⟨[4, 31], [], [], [], [], [], [], [], [], [], [], []⟩),
  (131, ⟨[2], [], [], [], [], [], [], [], [], [], [], []⟩),
  (132, ⟨[18], [], [⟨0, [1, 2, 3, 4], [1, 2, 3]⟩], [], [], [], [], [], [], [], [], []⟩),
  (134, ⟨[4], [], [], [], [], [], [], [], [], [], [], []⟩),
  (135, ⟨[2], [], [], [], [], [], [], [], [], [], [], []⟩),
  (136, ⟨[2], [], [], [], [], [], [], [], [], [], [], []⟩),
  (139, ⟨[4, 34], [], [⟨0, [0, 1, 5], []⟩], [], [], [], [], [], [], [], [], []⟩),
  (140, ⟨[4, 40], [], [⟨0, [0, 1, 5], []⟩], [], [], [], [], [], [], [], [], []⟩),
  (141, ⟨[8, 50], [], [⟨0, [1, 2, 3, 4, 9, 10], [4]⟩], [], [], [], [], [], [], [], [], []⟩),
  (142, ⟨[4, 17], [], [⟨0, [0, 1, 7, 8], []⟩], [], [], [], [], [], [], [], [], []⟩),
  (143, ⟨[], [], [⟨0, [0, 3], []⟩], [], [], [], [], [], [], [], [], []⟩),
  (144, ⟨[6, 33], [], [⟨0, [0, 1, 2, 7, 8], []⟩], [], [], [], [], [], [], [], [], []⟩),
  (145, ⟨[], [], [⟨0, [0, 3], []⟩], [], [], [], [], [], [], [], [], []⟩),
  (147, ⟨[4, 5, 16, 25, 28], [], [⟨0, [0, 1, 5, 6], []⟩], [], [], [], [], [], [], [], [], []⟩),
  (148, ⟨[4, 5], [], [], [], [], [], [], [], [], [], [], []⟩),
  (149, ⟨[4, 18], [], [], [], [], [], [], [], [], [], [], []⟩),
  (150, ⟨[2], [], [⟨0, [0, 3], []⟩], [], [], [], [], [], [], [], [], []⟩),
  (151, ⟨[2], [], [], [], [], [], [], [], [], [], [], []⟩),
  (152, ⟨[2], [], [], [], [], [], [], [], [], [], [], []⟩),
  (153, ⟨[2], [], [⟨0, [0, 3], []⟩], [], [], [], [], [], [], [], [], []⟩),
  (155, ⟨[4, 17], [], [⟨0, [0, 1, 7, 8], []⟩], [], [], [], [], [], [], [], [], []⟩),
  (156, ⟨[], [], [⟨0, [0, 3], []⟩], [], [], [], [], [], [], [], [], []⟩),
  (157, ⟨[2], [], [], [], [], [], [], [], [], [], [], []⟩),
  (158, ⟨[2], [], [], [], [], [], [], [], [], [], [], []⟩),
  (159, ⟨[2], [], [], [], [], [], [], [], [], [], [], []⟩),
  (160, ⟨[19], [], [⟨0, [2, 3, 12, 13, 14], [1, 2, 3]⟩], [], [], [], [], [], [], [], [], []⟩),
  (162, ⟨[4, 26], [], [⟨0, [0, 1, 5], []⟩], [], [], [], [], [], [], [], [], []⟩),
  (163, ⟨[4, 26], [], [⟨0, [1, 2, 5], [2]⟩], [], [], [], [], [], [], [], [], []⟩),
  (164, ⟨[2], [], [⟨0, [1, 3, 4], [1]⟩], [], [], [], [], [], [], [], [], []⟩),
  (165, ⟨[2], [], [⟨0, [1, 3], [1]⟩], [], [], [], [], [], [], [], [], []⟩),
  (166, ⟨[2, 22], [7], [⟨0, [0, 3, 4], [7]⟩], [], [], [], [], [], [], [], [], []⟩),
  (167, ⟨[4], [], [⟨0, [1, 5, 36, 37, 38], [2]⟩], [], [], [], [], [], [], [], [], []⟩),
  (168, ⟨[], [], [⟨0, [0, 1, 5], []⟩], [], [], [], [], [], [], [], [], []⟩),
  (169, ⟨[4, 8, 9], [], [], [], [], [], [], [], [], [], [], []⟩)]
noncomputable def EE : Env := { P := Try.prog, H := fun f => ((hints.find? (·.1 == f)).map (·.2)).getD ⟨[], [], [], [], [], [], [], [], [], [], [], []⟩, orc := fun g vs => if g = 83 then idxO vs else none }
theorem EP : EE.P = Try.prog := rfl
theorem o83 (s : ByteArray) (c : Int) : EE.orc 83 [.str s, .int .u8 c] = some (.int .i64 (idxB s c)) := by kernel_rfl
theorem h3 : EE.H 3 = ⟨[24, 33, 80], [6, 8, 9, 14], [], [], [], [32], [], [], [], [], [36, 41, 51, 61, 89], [55, 71, 74, 98]⟩ := by kernel_rfl
theorem o3 (vs : List V) : EE.orc 3 vs = none := by kernel_rfl
theorem h4 : EE.H 4 = ⟨[24, 33, 80], [6, 8, 9, 14], [], [], [], [32], [], [], [], [], [36, 41, 51, 61, 89], [55, 71, 74, 98]⟩ := by kernel_rfl
theorem o4 (vs : List V) : EE.orc 4 vs = none := by kernel_rfl
theorem h5 : EE.H 5 = ⟨[26, 36, 84], [6, 8, 9, 14], [], [], [(8, [0, 1, 2, 3, 4, 5, 6, 8, 9, 7, 10]), (10, [0, 1, 2, 3, 4, 5, 7, 8, 6, 9]), (27, [0, 1, 2, 3, 4, 5, 6, 8, 9, 7, 10])], [35], [], [], [], [32, 41, 90], [40, 45, 55, 65, 94], [59, 75, 78, 103]⟩ := by kernel_rfl
theorem o5 (vs : List V) : EE.orc 5 vs = none := by kernel_rfl
theorem h6 : EE.H 6 = ⟨[], [], [], [], [], [], [], [], [], [], [], []⟩ := by kernel_rfl
theorem o6 (vs : List V) : EE.orc 6 vs = none := by kernel_rfl
theorem h7 : EE.H 7 = ⟨[25, 37, 92], [], [], [], [], [], [], [], [], [], [], []⟩ := by kernel_rfl
theorem o7 (vs : List V) : EE.orc 7 vs = none := by kernel_rfl
theorem h8 : EE.H 8 = ⟨[4, 17], [], [], [], [], [], [], [], [], [], [], []⟩ := by kernel_rfl
theorem o8 (vs : List V) : EE.orc 8 vs = none := by kernel_rfl
theorem h9 : EE.H 9 = ⟨[28], [6], [⟨0, [1, 2, 4, 6, 7], [2, 4, 6, 430, 431]⟩], [], [], [20], [], [], [], [], [45], []⟩ := by kernel_rfl
theorem o9 (vs : List V) : EE.orc 9 vs = none := by kernel_rfl
theorem h10 : EE.H 10 = ⟨[6, 10, 12], [], [], [], [], [12], [], [], [], [], [], []⟩ := by kernel_rfl
theorem o10 (vs : List V) : EE.orc 10 vs = none := by kernel_rfl
theorem h11 : EE.H 11 = ⟨[27, 40], [], [⟨0, [1, 2, 4, 6, 22, 23], [2, 4, 6]⟩], [], [(7, [0, 2, 3, 4, 5, 6, 7, 8, 9, 10, 1, 11, 12, 13])], [41], [], [], [], [], [], []⟩ := by kernel_rfl
theorem o11 (vs : List V) : EE.orc 11 vs = none := by kernel_rfl
theorem h12 : EE.H 12 = ⟨[], [], [], [], [], [], [], [], [], [], [], []⟩ := by kernel_rfl
theorem o12 (vs : List V) : EE.orc 12 vs = none := by kernel_rfl
theorem h13 : EE.H 13 = ⟨[4, 13], [], [], [], [], [], [], [], [], [], [], [8, 12]⟩ := by kernel_rfl
theorem o13 (vs : List V) : EE.orc 13 vs = none := by kernel_rfl
theorem h14 : EE.H 14 = ⟨[4, 17], [], [], [], [], [], [], [], [], [], [], [8, 14]⟩ := by kernel_rfl
theorem o14 (vs : List V) : EE.orc 14 vs = none := by kernel_rfl
theorem h15 : EE.H 15 = ⟨[8], [], [], [], [], [20], [], [], [], [], [], []⟩ := by kernel_rfl
theorem o15 (vs : List V) : EE.orc 15 vs = none := by kernel_rfl
theorem h16 : EE.H 16 = ⟨[], [], [], [], [], [19], [], [], [], [], [], []⟩ := by kernel_rfl
theorem o16 (vs : List V) : EE.orc 16 vs = none := by kernel_rfl
theorem h17 : EE.H 17 = ⟨[4, 26], [], [], [], [], [], [], [], [], [], [], []⟩ := by kernel_rfl
theorem o17 (vs : List V) : EE.orc 17 vs = none := by kernel_rfl
theorem h18 : EE.H 18 = ⟨[33], [6], [⟨0, [2, 3, 4, 6, 7], [2, 3, 4, 6, 439, 440]⟩, ⟨2, [2, 3, 4, 6, 7, 8], [2, 3, 4, 6, 439, 440]⟩], [], [], [21], [], [], [], [], [54], []⟩ := by kernel_rfl
theorem o18 (vs : List V) : EE.orc 18 vs = none := by kernel_rfl
theorem h19 : EE.H 19 = ⟨[], [], [], [], [], [], [], [], [], [], [], []⟩ := by kernel_rfl
theorem o19 (vs : List V) : EE.orc 19 vs = none := by kernel_rfl
theorem h20 : EE.H 20 = ⟨[27], [], [⟨0, [2, 3, 4, 6, 22, 23], [2, 3, 4, 6]⟩], [], [(7, [0, 2, 3, 4, 5, 6, 7, 8, 9, 10, 11, 12, 13, 14, 15, 16, 17, 18, 1, 19, 20, 21])], [49], [], [], [], [], [], []⟩ := by kernel_rfl
theorem o20 (vs : List V) : EE.orc 20 vs = none := by kernel_rfl
theorem h21 : EE.H 21 = ⟨[4, 23], [], [], [], [], [], [], [], [], [], [], []⟩ := by kernel_rfl
theorem o21 (vs : List V) : EE.orc 21 vs = none := by kernel_rfl
theorem h22 : EE.H 22 = ⟨[4, 25], [], [], [], [], [], [], [], [], [], [], []⟩ := by kernel_rfl
theorem o22 (vs : List V) : EE.orc 22 vs = none := by kernel_rfl
theorem h23 : EE.H 23 = ⟨[4, 5, 16, 47, 89, 104], [], [⟨0, [2, 3, 5, 6, 7], [2, 3]⟩, ⟨2, [2, 3, 5, 6, 7, 8, 9, 10], [2, 3]⟩], [], [], [], [], [], [], [], [], []⟩ := by kernel_rfl
theorem o23 (vs : List V) : EE.orc 23 vs = none := by kernel_rfl
theorem h24 : EE.H 24 = ⟨[], [], [], [], [], [], [], [], [], [], [], []⟩ := by kernel_rfl
theorem o24 (vs : List V) : EE.orc 24 vs = none := by kernel_rfl
theorem h25 : EE.H 25 = ⟨[], [], [], [], [], [], [], [], [], [], [], []⟩ := by kernel_rfl
theorem o25 (vs : List V) : EE.orc 25 vs = none := by kernel_rfl
theorem h26 : EE.H 26 = ⟨[4, 122], [], [⟨0, [3, 5, 7, 8, 54, 55, 56], [2, 3, 5, 7, 8]⟩, ⟨2, [3, 5, 7, 8, 11, 13, 14, 54, 55, 56, 99, 100], [2, 3, 5, 7, 8, 10, 11, 12]⟩], [], [], [], [], [], [], [], [], []⟩ := by kernel_rfl
theorem o26 (vs : List V) : EE.orc 26 vs = none := by kernel_rfl
theorem h27 : EE.H 27 = ⟨[], [], [⟨0, [0, 1, 5], []⟩], [], [], [], [], [], [], [], [], []⟩ := by kernel_rfl
theorem o27 (vs : List V) : EE.orc 27 vs = none := by kernel_rfl
theorem h28 : EE.H 28 = ⟨[], [], [], [], [], [], [], [], [], [], [], []⟩ := by kernel_rfl
theorem o28 (vs : List V) : EE.orc 28 vs = none := by kernel_rfl
theorem h29 : EE.H 29 = ⟨[], [], [], [], [], [], [], [], [], [], [], []⟩ := by kernel_rfl
theorem o29 (vs : List V) : EE.orc 29 vs = none := by kernel_rfl
theorem h30 : EE.H 30 = ⟨[4, 13], [], [], [], [], [], [], [], [], [], [], []⟩ := by kernel_rfl
theorem o30 (vs : List V) : EE.orc 30 vs = none := by kernel_rfl
theorem h31 : EE.H 31 = ⟨[4, 9], [], [], [], [], [], [], [], [], [], [], []⟩ := by kernel_rfl
theorem o31 (vs : List V) : EE.orc 31 vs = none := by kernel_rfl
theorem h32 : EE.H 32 = ⟨[4, 56], [], [⟨0, [0, 1, 5], []⟩], [], [], [], [], [], [], [], [], []⟩ := by kernel_rfl
theorem o32 (vs : List V) : EE.orc 32 vs = none := by kernel_rfl
theorem h33 : EE.H 33 = ⟨[4, 66], [], [⟨0, [0, 1, 5], []⟩], [], [], [], [], [], [], [], [], []⟩ := by kernel_rfl
theorem o33 (vs : List V) : EE.orc 33 vs = none := by kernel_rfl
theorem h34 : EE.H 34 = ⟨[4, 11], [], [], [], [], [], [], [], [], [], [], []⟩ := by kernel_rfl
theorem o34 (vs : List V) : EE.orc 34 vs = none := by kernel_rfl
theorem h35 : EE.H 35 = ⟨[47], [], [⟨0, [1, 2, 4, 6, 7], [2, 4, 6]⟩], [], [], [], [], [], [], [], [], []⟩ := by kernel_rfl
theorem o35 (vs : List V) : EE.orc 35 vs = none := by kernel_rfl
theorem h36 : EE.H 36 = ⟨[], [], [], [], [], [], [], [], [], [], [], []⟩ := by kernel_rfl
theorem o36 (vs : List V) : EE.orc 36 vs = none := by kernel_rfl
theorem h37 : EE.H 37 = ⟨[2, 21], [], [⟨0, [0, 3, 4], [7]⟩], [], [], [], [], [], [], [7, 21], [], []⟩ := by kernel_rfl
theorem o37 (vs : List V) : EE.orc 37 vs = none := by kernel_rfl
theorem h38 : EE.H 38 = ⟨[], [], [⟨0, [1, 2, 4, 6, 13, 14, 15], [2, 4]⟩], [], [], [], [], [], [], [], [], []⟩ := by kernel_rfl
theorem o38 (vs : List V) : EE.orc 38 vs = none := by kernel_rfl
theorem h39 : EE.H 39 = ⟨[], [], [], [], [], [], [], [], [], [], [], []⟩ := by kernel_rfl
theorem o39 (vs : List V) : EE.orc 39 vs = none := by kernel_rfl
theorem h40 : EE.H 40 = ⟨[], [], [⟨0, [0, 1, 5], []⟩], [], [], [], [], [], [], [], [], []⟩ := by kernel_rfl
theorem o40 (vs : List V) : EE.orc 40 vs = none := by kernel_rfl
theorem h41 : EE.H 41 = ⟨[4, 9], [], [], [], [], [], [], [], [], [], [], []⟩ := by kernel_rfl
theorem o41 (vs : List V) : EE.orc 41 vs = none := by kernel_rfl
theorem h42 : EE.H 42 = ⟨[4, 18], [], [⟨0, [0, 1, 5], []⟩], [], [], [], [], [], [], [], [], []⟩ := by kernel_rfl
theorem o42 (vs : List V) : EE.orc 42 vs = none := by kernel_rfl
theorem h43 : EE.H 43 = ⟨[4, 11], [], [], [], [], [], [], [], [], [], [], []⟩ := by kernel_rfl
theorem o43 (vs : List V) : EE.orc 43 vs = none := by kernel_rfl
theorem h44 : EE.H 44 = ⟨[4, 11], [], [], [], [], [], [], [], [], [], [], []⟩ := by kernel_rfl
theorem o44 (vs : List V) : EE.orc 44 vs = none := by kernel_rfl
theorem h45 : EE.H 45 = ⟨[4, 26], [], [⟨0, [0, 1, 5], []⟩], [], [], [], [], [], [], [], [], []⟩ := by kernel_rfl
theorem o45 (vs : List V) : EE.orc 45 vs = none := by kernel_rfl
theorem h46 : EE.H 46 = ⟨[], [], [⟨0, [1, 3, 4], [1]⟩, ⟨2, [1, 3, 4, 5], [1]⟩], [], [], [], [], [], [], [], [], []⟩ := by kernel_rfl
theorem o46 (vs : List V) : EE.orc 46 vs = none := by kernel_rfl
theorem h47 : EE.H 47 = ⟨[2], [], [⟨0, [0, 3], []⟩], [], [], [], [], [], [], [], [], []⟩ := by kernel_rfl
theorem o47 (vs : List V) : EE.orc 47 vs = none := by kernel_rfl
theorem h48 : EE.H 48 = ⟨[18, 29], [], [⟨0, [1, 2, 3, 4], [1, 2, 3]⟩], [], [(5, [0, 2, 3, 4, 5, 6, 7, 8, 9, 1, 10, 11, 12])], [8, 25], [], [], [], [26, 27], [], []⟩ := by kernel_rfl
theorem o48 (vs : List V) : EE.orc 48 vs = none := by kernel_rfl
theorem h49 : EE.H 49 = ⟨[6, 45], [], [⟨0, [2, 3, 8, 9], [3]⟩], [], [], [], [], [], [], [], [], []⟩ := by kernel_rfl
theorem o49 (vs : List V) : EE.orc 49 vs = none := by kernel_rfl
theorem h50 : EE.H 50 = ⟨[4, 7, 46, 50, 57, 70, 71, 75], [], [⟨0, [1, 2, 3, 4, 5, 6], [1, 2, 5]⟩, ⟨2, [1, 2, 3, 4, 5, 6, 7, 8], [1, 2, 5]⟩], [], [(15, [0, 2, 3, 4, 5, 6, 7, 8, 9, 10, 1, 11, 12, 13])], [55, 67], [], [], [], [72, 73], [], []⟩ := by kernel_rfl
theorem o50 (vs : List V) : EE.orc 50 vs = none := by kernel_rfl
theorem h51 : EE.H 51 = ⟨[2, 21], [], [⟨0, [0, 3, 4], [7]⟩], [], [], [], [], [], [], [7, 21], [], []⟩ := by kernel_rfl
theorem o51 (vs : List V) : EE.orc 51 vs = none := by kernel_rfl
theorem h52 : EE.H 52 = ⟨[2, 20, 22], [], [⟨0, [0, 3, 4], [7]⟩], [], [], [], [], [], [], [7, 22], [], []⟩ := by kernel_rfl
theorem o52 (vs : List V) : EE.orc 52 vs = none := by kernel_rfl
theorem h53 : EE.H 53 = ⟨[2], [], [], [], [], [], [], [], [], [], [], []⟩ := by kernel_rfl
theorem o53 (vs : List V) : EE.orc 53 vs = none := by kernel_rfl
theorem h54 : EE.H 54 = ⟨[2], [], [], [], [], [], [], [], [], [], [], []⟩ := by kernel_rfl
theorem o54 (vs : List V) : EE.orc 54 vs = none := by kernel_rfl
theorem h55 : EE.H 55 = ⟨[6, 25], [], [⟨0, [1, 2, 3, 7], [3]⟩], [], [], [], [], [], [], [], [], []⟩ := by kernel_rfl
theorem o55 (vs : List V) : EE.orc 55 vs = none := by kernel_rfl
theorem h56 : EE.H 56 = ⟨[5, 27, 33, 60, 72, 133, 167, 185, 210, 223, 236, 237, 242], [79, 99], [⟨0, [2, 4, 5, 6, 7], [2, 4, 38]⟩, ⟨2, [2, 4, 5, 6, 7, 54, 55, 56], [2, 4, 38]⟩, ⟨4, [2, 4, 5, 6, 12, 80, 81, 82], [2, 4, 38, 79]⟩, ⟨6, [2, 4, 5, 6, 12, 15], [2, 4, 38]⟩, ⟨8, [2, 4, 5, 6, 12, 15, 16, 17, 100, 101, 102], [2, 4, 38, 96, 99]⟩, ⟨10, [2, 4, 5, 6, 12, 15, 16, 17, 18, 20, 100, 101, 102, 116, 117, 118], [2, 4, 20, 38, 96, 99]⟩, ⟨12, [2, 4, 5, 6, 12, 25, 26, 27, 163, 164], [2, 4, 25, 38, 160]⟩, ⟨14, [2, 4, 5, 6, 12, 25, 26, 190, 191, 192], [2, 4, 25, 38, 160]⟩, ⟨16, [2, 4, 5, 6, 12, 25, 26, 32, 33, 190, 191, 192, 204, 205, 206], [2, 4, 25, 38, 160]⟩], [], [(61, [0, 2, 3, 4, 5, 6, 7, 8, 9, 10, 1, 11, 12, 13])], [220, 233], [], [], [], [238, 239], [], []⟩ := by kernel_rfl
theorem o56 (vs : List V) : EE.orc 56 vs = none := by kernel_rfl
theorem h57 : EE.H 57 = ⟨[], [], [⟨0, [0, 1, 5], []⟩], [], [], [], [], [], [], [], [], []⟩ := by kernel_rfl
theorem o57 (vs : List V) : EE.orc 57 vs = none := by kernel_rfl
theorem h58 : EE.H 58 = ⟨[], [], [⟨0, [0, 1, 5], []⟩], [], [], [], [], [], [], [], [], []⟩ := by kernel_rfl
theorem o58 (vs : List V) : EE.orc 58 vs = none := by kernel_rfl
theorem h59 : EE.H 59 = ⟨[4, 20], [], [⟨0, [0, 1, 5], []⟩], [], [], [], [], [], [], [], [], []⟩ := by kernel_rfl
theorem o59 (vs : List V) : EE.orc 59 vs = none := by kernel_rfl
theorem h60 : EE.H 60 = ⟨[4, 18], [], [⟨0, [0, 1, 5], []⟩], [], [], [], [], [], [], [], [], [17]⟩ := by kernel_rfl
theorem o60 (vs : List V) : EE.orc 60 vs = none := by kernel_rfl
theorem h61 : EE.H 61 = ⟨[4, 22], [], [⟨0, [0, 1, 5], []⟩], [], [], [], [], [], [], [], [], []⟩ := by kernel_rfl
theorem o61 (vs : List V) : EE.orc 61 vs = none := by kernel_rfl
theorem h62 : EE.H 62 = ⟨[4, 20], [], [⟨0, [0, 1, 5], []⟩], [], [], [], [], [], [], [], [], [17]⟩ := by kernel_rfl
theorem o62 (vs : List V) : EE.orc 62 vs = none := by kernel_rfl
theorem h63 : EE.H 63 = ⟨[7, 22, 38, 50], [], [⟨0, [1, 2, 4, 5, 6], [2, 4, 5]⟩, ⟨2, [1, 2, 4, 5, 6, 7, 8], [2, 4, 5]⟩], [], [(9, [1, 2, 3, 4, 5, 6, 7, 8, 9, 10, 11, 12, 13, 0, 14, 15]), (10, [0, 2, 3, 4, 5, 6, 7, 8, 9, 1, 10, 11, 12])], [], [], [], [], [], [], []⟩ := by kernel_rfl
theorem o63 (vs : List V) : EE.orc 63 vs = none := by kernel_rfl
theorem h64 : EE.H 64 = ⟨[2], [], [], [], [], [], [], [], [], [], [], []⟩ := by kernel_rfl
theorem o64 (vs : List V) : EE.orc 64 vs = none := by kernel_rfl
theorem h65 : EE.H 65 = ⟨[4, 44], [], [⟨0, [1, 2, 5, 6], [2]⟩], [], [], [], [], [], [], [], [], []⟩ := by kernel_rfl
theorem o65 (vs : List V) : EE.orc 65 vs = none := by kernel_rfl
theorem h66 : EE.H 66 = ⟨[], [], [⟨0, [11, 12, 13], [1]⟩], [], [], [], [], [], [], [], [], []⟩ := by kernel_rfl
theorem o66 (vs : List V) : EE.orc 66 vs = none := by kernel_rfl
theorem h67 : EE.H 67 = ⟨[4, 19], [], [], [], [], [], [], [], [], [], [], []⟩ := by kernel_rfl
theorem o67 (vs : List V) : EE.orc 67 vs = none := by kernel_rfl
theorem h68 : EE.H 68 = ⟨[4, 23], [], [], [], [], [], [], [], [], [], [], []⟩ := by kernel_rfl
theorem o68 (vs : List V) : EE.orc 68 vs = none := by kernel_rfl
theorem h69 : EE.H 69 = ⟨[4, 11], [], [], [], [], [], [], [], [], [], [], []⟩ := by kernel_rfl
theorem o69 (vs : List V) : EE.orc 69 vs = none := by kernel_rfl
theorem h70 : EE.H 70 = ⟨[], [], [⟨0, [5, 6], [2, 3]⟩], [], [], [], [], [], [], [], [], []⟩ := by kernel_rfl
theorem o70 (vs : List V) : EE.orc 70 vs = none := by kernel_rfl
theorem h71 : EE.H 71 = ⟨[2], [], [], [], [], [], [], [], [], [], [], []⟩ := by kernel_rfl
theorem o71 (vs : List V) : EE.orc 71 vs = none := by kernel_rfl
theorem h72 : EE.H 72 = ⟨[2], [], [], [], [], [], [], [], [], [], [], []⟩ := by kernel_rfl
theorem o72 (vs : List V) : EE.orc 72 vs = none := by kernel_rfl
theorem h73 : EE.H 73 = ⟨[], [8], [], [], [], [23], [], [], [], [], [], []⟩ := by kernel_rfl
theorem o73 (vs : List V) : EE.orc 73 vs = none := by kernel_rfl
theorem h74 : EE.H 74 = ⟨[6], [], [], [], [], [], [], [], [], [], [], []⟩ := by kernel_rfl
theorem o74 (vs : List V) : EE.orc 74 vs = none := by kernel_rfl
theorem h75 : EE.H 75 = ⟨[], [], [], [], [], [], [], [], [], [], [], []⟩ := by kernel_rfl
theorem o75 (vs : List V) : EE.orc 75 vs = none := by kernel_rfl
theorem h76 : EE.H 76 = ⟨[], [], [], [], [], [], [], [], [], [], [], []⟩ := by kernel_rfl
theorem o76 (vs : List V) : EE.orc 76 vs = none := by kernel_rfl
theorem h77 : EE.H 77 = ⟨[3], [], [], [], [], [], [], [], [], [], [], []⟩ := by kernel_rfl
theorem o77 (vs : List V) : EE.orc 77 vs = none := by kernel_rfl
theorem h78 : EE.H 78 = ⟨[6], [], [], [], [], [], [], [], [], [], [], []⟩ := by kernel_rfl
theorem o78 (vs : List V) : EE.orc 78 vs = none := by kernel_rfl
theorem h79 : EE.H 79 = ⟨[2], [], [], [], [], [], [], [], [], [], [], []⟩ := by kernel_rfl
theorem o79 (vs : List V) : EE.orc 79 vs = none := by kernel_rfl
theorem h80 : EE.H 80 = ⟨[4], [], [], [], [], [], [], [], [], [], [], []⟩ := by kernel_rfl
theorem o80 (vs : List V) : EE.orc 80 vs = none := by kernel_rfl
theorem h81 : EE.H 81 = ⟨[], [], [⟨0, [0, 3], []⟩], [], [], [], [], [], [], [], [], []⟩ := by kernel_rfl
theorem o81 (vs : List V) : EE.orc 81 vs = none := by kernel_rfl
theorem h82 : EE.H 82 = ⟨[2, 5, 59, 74, 87], [], [⟨0, [5, 49, 50, 51], [1]⟩], [], [], [], [], [], [], [], [], []⟩ := by kernel_rfl
theorem o82 (vs : List V) : EE.orc 82 vs = none := by kernel_rfl
theorem h83 : EE.H 83 = ⟨[4], [], [], [], [], [], [], [], [], [], [], []⟩ := by kernel_rfl
theorem h84 : EE.H 84 = ⟨[], [], [], [], [], [], [], [], [], [], [], []⟩ := by kernel_rfl
theorem o84 (vs : List V) : EE.orc 84 vs = none := by kernel_rfl
theorem h85 : EE.H 85 = ⟨[7, 15], [7], [], [], [], [10], [21], [], [], [], [], []⟩ := by kernel_rfl
theorem o85 (vs : List V) : EE.orc 85 vs = none := by kernel_rfl
theorem h86 : EE.H 86 = ⟨[2], [], [], [], [], [7], [], [], [], [], [], []⟩ := by kernel_rfl
theorem o86 (vs : List V) : EE.orc 86 vs = none := by kernel_rfl
theorem h87 : EE.H 87 = ⟨[2], [], [], [], [], [], [], [], [], [], [], []⟩ := by kernel_rfl
theorem o87 (vs : List V) : EE.orc 87 vs = none := by kernel_rfl
theorem h88 : EE.H 88 = ⟨[], [], [], [], [], [], [], [], [], [], [], []⟩ := by kernel_rfl
theorem o88 (vs : List V) : EE.orc 88 vs = none := by kernel_rfl
theorem h89 : EE.H 89 = ⟨[], [], [], [], [], [], [], [], [], [], [], []⟩ := by kernel_rfl
theorem o89 (vs : List V) : EE.orc 89 vs = none := by kernel_rfl
theorem h90 : EE.H 90 = ⟨[], [], [], [], [], [], [], [], [], [], [], []⟩ := by kernel_rfl
theorem o90 (vs : List V) : EE.orc 90 vs = none := by kernel_rfl
theorem h91 : EE.H 91 = ⟨[4, 17], [], [], [], [], [], [], [], [], [], [], []⟩ := by kernel_rfl
theorem o91 (vs : List V) : EE.orc 91 vs = none := by kernel_rfl
theorem h92 : EE.H 92 = ⟨[2], [], [⟨0, [0, 3], []⟩], [], [], [], [], [], [], [], [], []⟩ := by kernel_rfl
theorem o92 (vs : List V) : EE.orc 92 vs = none := by kernel_rfl
theorem h93 : EE.H 93 = ⟨[4, 20], [], [⟨0, [0, 1, 5], []⟩], [], [], [], [], [], [], [], [], []⟩ := by kernel_rfl
theorem o93 (vs : List V) : EE.orc 93 vs = none := by kernel_rfl
theorem h94 : EE.H 94 = ⟨[4, 26], [], [⟨0, [0, 1, 5], []⟩], [], [], [], [], [], [], [], [], []⟩ := by kernel_rfl
theorem o94 (vs : List V) : EE.orc 94 vs = none := by kernel_rfl
theorem h95 : EE.H 95 = ⟨[2], [], [⟨0, [1, 3], [1]⟩], [], [], [], [], [], [], [], [], []⟩ := by kernel_rfl
theorem o95 (vs : List V) : EE.orc 95 vs = none := by kernel_rfl
theorem h96 : EE.H 96 = ⟨[6], [], [], [], [], [], [], [], [], [], [], []⟩ := by kernel_rfl
theorem o96 (vs : List V) : EE.orc 96 vs = none := by kernel_rfl
theorem h97 : EE.H 97 = ⟨[], [], [], [], [], [], [], [], [], [], [], []⟩ := by kernel_rfl
theorem o97 (vs : List V) : EE.orc 97 vs = none := by kernel_rfl
theorem h98 : EE.H 98 = ⟨[2, 22], [7], [⟨0, [0, 3, 4], [7]⟩], [], [], [], [], [], [], [], [], []⟩ := by kernel_rfl
theorem o98 (vs : List V) : EE.orc 98 vs = none := by kernel_rfl
theorem h99 : EE.H 99 = ⟨[2], [], [], [], [], [], [], [], [], [], [], []⟩ := by kernel_rfl
theorem o99 (vs : List V) : EE.orc 99 vs = none := by kernel_rfl
theorem h100 : EE.H 100 = ⟨[16], [], [⟨0, [2, 4, 5, 9, 10, 11], [2, 4, 5]⟩], [], [], [], [], [], [], [], [], []⟩ := by kernel_rfl
theorem o100 (vs : List V) : EE.orc 100 vs = none := by kernel_rfl
theorem h101 : EE.H 101 = ⟨[], [], [⟨0, [0, 1, 5], []⟩], [], [], [], [], [], [], [], [], []⟩ := by kernel_rfl
theorem o101 (vs : List V) : EE.orc 101 vs = none := by kernel_rfl
theorem h102 : EE.H 102 = ⟨[4, 74], [], [⟨0, [0, 1, 5], []⟩], [], [], [], [], [], [], [], [], []⟩ := by kernel_rfl
theorem o102 (vs : List V) : EE.orc 102 vs = none := by kernel_rfl
theorem h103 : EE.H 103 = ⟨[4, 90], [], [⟨0, [0, 1, 5], []⟩], [], [], [], [], [], [], [], [], []⟩ := by kernel_rfl
theorem o103 (vs : List V) : EE.orc 103 vs = none := by kernel_rfl
theorem h104 : EE.H 104 = ⟨[2, 12], [], [⟨0, [0, 3], []⟩], [], [], [], [], [], [], [], [], []⟩ := by kernel_rfl
theorem o104 (vs : List V) : EE.orc 104 vs = none := by kernel_rfl
theorem h105 : EE.H 105 = ⟨[2, 59], [14, 34], [⟨0, [1, 3, 4, 5], [1, 14]⟩, ⟨2, [1, 3, 4, 6], [1]⟩, ⟨4, [1, 3, 4, 6, 7, 8], [1, 34]⟩, ⟨6, [1, 3, 4, 6, 7, 8, 9], [1, 34]⟩], [], [], [], [], [], [], [], [], []⟩ := by kernel_rfl
theorem o105 (vs : List V) : EE.orc 105 vs = none := by kernel_rfl
theorem h106 : EE.H 106 = ⟨[4, 18], [], [⟨0, [0, 1, 5], []⟩], [], [], [], [], [], [], [], [], []⟩ := by kernel_rfl
theorem o106 (vs : List V) : EE.orc 106 vs = none := by kernel_rfl
theorem h107 : EE.H 107 = ⟨[4], [], [], [], [], [], [], [], [], [], [], []⟩ := by kernel_rfl
theorem o107 (vs : List V) : EE.orc 107 vs = none := by kernel_rfl
theorem h108 : EE.H 108 = ⟨[3], [], [], [], [], [], [], [], [], [], [], []⟩ := by kernel_rfl
theorem o108 (vs : List V) : EE.orc 108 vs = none := by kernel_rfl
theorem h109 : EE.H 109 = ⟨[3], [], [], [], [], [], [], [], [], [], [], []⟩ := by kernel_rfl
theorem o109 (vs : List V) : EE.orc 109 vs = none := by kernel_rfl
theorem h110 : EE.H 110 = ⟨[], [], [⟨0, [0, 3], []⟩], [], [], [], [], [], [], [], [], []⟩ := by kernel_rfl
theorem o110 (vs : List V) : EE.orc 110 vs = none := by kernel_rfl
theorem h111 : EE.H 111 = ⟨[4, 8, 12], [], [], [], [], [], [], [], [], [], [], []⟩ := by kernel_rfl
theorem o111 (vs : List V) : EE.orc 111 vs = none := by kernel_rfl
theorem h112 : EE.H 112 = ⟨[2], [], [], [], [], [], [], [], [], [], [], []⟩ := by kernel_rfl
theorem o112 (vs : List V) : EE.orc 112 vs = none := by kernel_rfl
theorem h113 : EE.H 113 = ⟨[], [], [⟨0, [1, 3, 4], [1]⟩], [], [], [], [], [], [], [], [], []⟩ := by kernel_rfl
theorem o113 (vs : List V) : EE.orc 113 vs = none := by kernel_rfl
theorem h114 : EE.H 114 = ⟨[], [], [⟨0, [0, 1, 5], []⟩], [], [], [], [], [], [], [], [], []⟩ := by kernel_rfl
theorem o114 (vs : List V) : EE.orc 114 vs = none := by kernel_rfl
theorem h115 : EE.H 115 = ⟨[2], [], [⟨0, [0, 3], []⟩], [], [], [], [], [], [], [], [], []⟩ := by kernel_rfl
theorem o115 (vs : List V) : EE.orc 115 vs = none := by kernel_rfl
theorem h116 : EE.H 116 = ⟨[], [], [⟨0, [1, 2, 3], [1, 2]⟩], [], [], [], [], [], [], [], [], []⟩ := by kernel_rfl
theorem o116 (vs : List V) : EE.orc 116 vs = none := by kernel_rfl
theorem h117 : EE.H 117 = ⟨[2], [], [], [], [], [], [], [], [], [], [], []⟩ := by kernel_rfl
theorem o117 (vs : List V) : EE.orc 117 vs = none := by kernel_rfl
theorem h118 : EE.H 118 = ⟨[4, 5, 10, 11, 23, 32], [], [], [], [], [], [], [], [], [], [], []⟩ := by kernel_rfl
theorem o118 (vs : List V) : EE.orc 118 vs = none := by kernel_rfl
theorem h119 : EE.H 119 = ⟨[], [], [], [], [], [], [], [], [], [], [], []⟩ := by kernel_rfl
theorem o119 (vs : List V) : EE.orc 119 vs = none := by kernel_rfl
theorem h120 : EE.H 120 = ⟨[2], [], [], [], [], [], [], [], [], [], [], []⟩ := by kernel_rfl
theorem o120 (vs : List V) : EE.orc 120 vs = none := by kernel_rfl
theorem h121 : EE.H 121 = ⟨[3], [], [], [], [], [], [], [], [], [], [], []⟩ := by kernel_rfl
theorem o121 (vs : List V) : EE.orc 121 vs = none := by kernel_rfl
theorem h122 : EE.H 122 = ⟨[4], [], [], [], [], [], [], [], [], [], [], []⟩ := by kernel_rfl
theorem o122 (vs : List V) : EE.orc 122 vs = none := by kernel_rfl
theorem h123 : EE.H 123 = ⟨[4, 17], [], [⟨0, [0, 1, 7, 8], []⟩], [], [], [], [], [], [], [], [], []⟩ := by kernel_rfl
theorem o123 (vs : List V) : EE.orc 123 vs = none := by kernel_rfl
theorem h124 : EE.H 124 = ⟨[2], [], [], [], [], [], [], [], [], [], [], []⟩ := by kernel_rfl
theorem o124 (vs : List V) : EE.orc 124 vs = none := by kernel_rfl
theorem h125 : EE.H 125 = ⟨[], [], [⟨0, [1, 2], [1, 2]⟩], [], [], [], [], [], [], [], [], []⟩ := by kernel_rfl
theorem o125 (vs : List V) : EE.orc 125 vs = none := by kernel_rfl
theorem h126 : EE.H 126 = ⟨[2], [], [], [], [], [], [], [], [], [], [], []⟩ := by kernel_rfl
theorem o126 (vs : List V) : EE.orc 126 vs = none := by kernel_rfl
theorem h127 : EE.H 127 = ⟨[4], [], [], [], [], [], [], [], [], [], [], []⟩ := by kernel_rfl
theorem o127 (vs : List V) : EE.orc 127 vs = none := by kernel_rfl
theorem h128 : EE.H 128 = ⟨[6], [], [], [], [], [], [], [], [], [], [], []⟩ := by kernel_rfl
theorem o128 (vs : List V) : EE.orc 128 vs = none := by kernel_rfl
theorem h129 : EE.H 129 = ⟨[], [], [], [], [], [], [], [], [], [], [], []⟩ := by kernel_rfl
theorem o129 (vs : List V) : EE.orc 129 vs = none := by kernel_rfl
theorem h130 : EE.H 130 = ⟨[4, 31], [], [], [], [], [], [], [], [], [], [], []⟩ := by kernel_rfl
theorem o130 (vs : List V) : EE.orc 130 vs = none := by kernel_rfl
theorem h131 : EE.H 131 = ⟨[2], [], [], [], [], [], [], [], [], [], [], []⟩ := by kernel_rfl
theorem o131 (vs : List V) : EE.orc 131 vs = none := by kernel_rfl
theorem h132 : EE.H 132 = ⟨[18], [], [⟨0, [1, 2, 3, 4], [1, 2, 3]⟩], [], [], [], [], [], [], [], [], []⟩ := by kernel_rfl
theorem o132 (vs : List V) : EE.orc 132 vs = none := by kernel_rfl
theorem h133 : EE.H 133 = ⟨[], [], [], [], [], [], [], [], [], [], [], []⟩ := by kernel_rfl
theorem o133 (vs : List V) : EE.orc 133 vs = none := by kernel_rfl
theorem h134 : EE.H 134 = ⟨[4], [], [], [], [], [], [], [], [], [], [], []⟩ := by kernel_rfl
theorem o134 (vs : List V) : EE.orc 134 vs = none := by kernel_rfl
theorem h135 : EE.H 135 = ⟨[2], [], [], [], [], [], [], [], [], [], [], []⟩ := by kernel_rfl
theorem o135 (vs : List V) : EE.orc 135 vs = none := by kernel_rfl
theorem h136 : EE.H 136 = ⟨[2], [], [], [], [], [], [], [], [], [], [], []⟩ := by kernel_rfl
theorem o136 (vs : List V) : EE.orc 136 vs = none := by kernel_rfl
theorem h137 : EE.H 137 = ⟨[], [], [], [], [], [], [], [], [], [], [], []⟩ := by kernel_rfl
theorem o137 (vs : List V) : EE.orc 137 vs = none := by kernel_rfl
theorem h138 : EE.H 138 = ⟨[], [], [], [], [], [], [], [], [], [], [], []⟩ := by kernel_rfl
theorem o138 (vs : List V) : EE.orc 138 vs = none := by kernel_rfl
theorem h139 : EE.H 139 = ⟨[4, 34], [], [⟨0, [0, 1, 5], []⟩], [], [], [], [], [], [], [], [], []⟩ := by kernel_rfl
theorem o139 (vs : List V) : EE.orc 139 vs = none := by kernel_rfl
theorem h140 : EE.H 140 = ⟨[4, 40], [], [⟨0, [0, 1, 5], []⟩], [], [], [], [], [], [], [], [], []⟩ := by kernel_rfl
theorem o140 (vs : List V) : EE.orc 140 vs = none := by kernel_rfl
theorem h141 : EE.H 141 = ⟨[8, 50], [], [⟨0, [1, 2, 3, 4, 9, 10], [4]⟩], [], [], [], [], [], [], [], [], []⟩ := by kernel_rfl
theorem o141 (vs : List V) : EE.orc 141 vs = none := by kernel_rfl
theorem h142 : EE.H 142 = ⟨[4, 17], [], [⟨0, [0, 1, 7, 8], []⟩], [], [], [], [], [], [], [], [], []⟩ := by kernel_rfl
theorem o142 (vs : List V) : EE.orc 142 vs = none := by kernel_rfl
theorem h143 : EE.H 143 = ⟨[], [], [⟨0, [0, 3], []⟩], [], [], [], [], [], [], [], [], []⟩ := by kernel_rfl
theorem o143 (vs : List V) : EE.orc 143 vs = none := by kernel_rfl
theorem h144 : EE.H 144 = ⟨[6, 33], [], [⟨0, [0, 1, 2, 7, 8], []⟩], [], [], [], [], [], [], [], [], []⟩ := by kernel_rfl
theorem o144 (vs : List V) : EE.orc 144 vs = none := by kernel_rfl
theorem h145 : EE.H 145 = ⟨[], [], [⟨0, [0, 3], []⟩], [], [], [], [], [], [], [], [], []⟩ := by kernel_rfl
theorem o145 (vs : List V) : EE.orc 145 vs = none := by kernel_rfl
theorem h147 : EE.H 147 = ⟨[4, 5, 16, 25, 28], [], [⟨0, [0, 1, 5, 6], []⟩], [], [], [], [], [], [], [], [], []⟩ := by kernel_rfl
theorem o147 (vs : List V) : EE.orc 147 vs = none := by kernel_rfl
theorem h148 : EE.H 148 = ⟨[4, 5], [], [], [], [], [], [], [], [], [], [], []⟩ := by kernel_rfl
theorem o148 (vs : List V) : EE.orc 148 vs = none := by kernel_rfl
theorem h149 : EE.H 149 = ⟨[4, 18], [], [], [], [], [], [], [], [], [], [], []⟩ := by kernel_rfl
theorem o149 (vs : List V) : EE.orc 149 vs = none := by kernel_rfl
theorem h150 : EE.H 150 = ⟨[2], [], [⟨0, [0, 3], []⟩], [], [], [], [], [], [], [], [], []⟩ := by kernel_rfl
theorem o150 (vs : List V) : EE.orc 150 vs = none := by kernel_rfl
theorem h151 : EE.H 151 = ⟨[2], [], [], [], [], [], [], [], [], [], [], []⟩ := by kernel_rfl
theorem o151 (vs : List V) : EE.orc 151 vs = none := by kernel_rfl
theorem h152 : EE.H 152 = ⟨[2], [], [], [], [], [], [], [], [], [], [], []⟩ := by kernel_rfl
theorem o152 (vs : List V) : EE.orc 152 vs = none := by kernel_rfl
theorem h153 : EE.H 153 = ⟨[2], [], [⟨0, [0, 3], []⟩], [], [], [], [], [], [], [], [], []⟩ := by kernel_rfl
theorem o153 (vs : List V) : EE.orc 153 vs = none := by kernel_rfl
theorem h154 : EE.H 154 = ⟨[], [], [], [], [], [], [], [], [], [], [], []⟩ := by kernel_rfl
theorem o154 (vs : List V) : EE.orc 154 vs = none := by kernel_rfl
theorem h155 : EE.H 155 = ⟨[4, 17], [], [⟨0, [0, 1, 7, 8], []⟩], [], [], [], [], [], [], [], [], []⟩ := by kernel_rfl
theorem o155 (vs : List V) : EE.orc 155 vs = none := by kernel_rfl
theorem h156 : EE.H 156 = ⟨[], [], [⟨0, [0, 3], []⟩], [], [], [], [], [], [], [], [], []⟩ := by kernel_rfl
theorem o156 (vs : List V) : EE.orc 156 vs = none := by kernel_rfl
theorem h157 : EE.H 157 = ⟨[2], [], [], [], [], [], [], [], [], [], [], []⟩ := by kernel_rfl
theorem o157 (vs : List V) : EE.orc 157 vs = none := by kernel_rfl
theorem h158 : EE.H 158 = ⟨[2], [], [], [], [], [], [], [], [], [], [], []⟩ := by kernel_rfl
theorem o158 (vs : List V) : EE.orc 158 vs = none := by kernel_rfl
theorem h159 : EE.H 159 = ⟨[2], [], [], [], [], [], [], [], [], [], [], []⟩ := by kernel_rfl
theorem o159 (vs : List V) : EE.orc 159 vs = none := by kernel_rfl
theorem h160 : EE.H 160 = ⟨[19], [], [⟨0, [2, 3, 12, 13, 14], [1, 2, 3]⟩], [], [], [], [], [], [], [], [], []⟩ := by kernel_rfl
theorem o160 (vs : List V) : EE.orc 160 vs = none := by kernel_rfl
theorem h161 : EE.H 161 = ⟨[], [], [], [], [], [], [], [], [], [], [], []⟩ := by kernel_rfl
theorem o161 (vs : List V) : EE.orc 161 vs = none := by kernel_rfl
theorem h162 : EE.H 162 = ⟨[4, 26], [], [⟨0, [0, 1, 5], []⟩], [], [], [], [], [], [], [], [], []⟩ := by kernel_rfl
theorem o162 (vs : List V) : EE.orc 162 vs = none := by kernel_rfl
theorem h163 : EE.H 163 = ⟨[4, 26], [], [⟨0, [1, 2, 5], [2]⟩], [], [], [], [], [], [], [], [], []⟩ := by kernel_rfl
theorem o163 (vs : List V) : EE.orc 163 vs = none := by kernel_rfl
theorem h164 : EE.H 164 = ⟨[2], [], [⟨0, [1, 3, 4], [1]⟩], [], [], [], [], [], [], [], [], []⟩ := by kernel_rfl
theorem o164 (vs : List V) : EE.orc 164 vs = none := by kernel_rfl
theorem h165 : EE.H 165 = ⟨[2], [], [⟨0, [1, 3], [1]⟩], [], [], [], [], [], [], [], [], []⟩ := by kernel_rfl
theorem o165 (vs : List V) : EE.orc 165 vs = none := by kernel_rfl
theorem h166 : EE.H 166 = ⟨[2, 22], [7], [⟨0, [0, 3, 4], [7]⟩], [], [], [], [], [], [], [], [], []⟩ := by kernel_rfl
theorem o166 (vs : List V) : EE.orc 166 vs = none := by kernel_rfl
theorem h167 : EE.H 167 = ⟨[4], [], [⟨0, [1, 5, 36, 37, 38], [2]⟩], [], [], [], [], [], [], [], [], []⟩ := by kernel_rfl
theorem o167 (vs : List V) : EE.orc 167 vs = none := by kernel_rfl
theorem h168 : EE.H 168 = ⟨[], [], [⟨0, [0, 1, 5], []⟩], [], [], [], [], [], [], [], [], []⟩ := by kernel_rfl
theorem o168 (vs : List V) : EE.orc 168 vs = none := by kernel_rfl
theorem h169 : EE.H 169 = ⟨[4, 8, 9], [], [], [], [], [], [], [], [], [], [], []⟩ := by kernel_rfl
theorem o169 (vs : List V) : EE.orc 169 vs = none := by kernel_rfl
theorem h170 : EE.H 170 = ⟨[], [], [], [], [], [], [], [], [], [], [], []⟩ := by kernel_rfl
theorem o170 (vs : List V) : EE.orc 170 vs = none := by kernel_rfl
theorem h171 : EE.H 171 = ⟨[], [], [], [], [], [], [], [], [], [], [], []⟩ := by kernel_rfl
theorem o171 (vs : List V) : EE.orc 171 vs = none := by kernel_rfl
attribute [go_sem] EP h3 o3 h4 o4 h5 o5 h6 o6 h7 o7 h8 o8 h9 o9 h10 o10 h11 o11 h12 o12 h13 o13 h14 o14 h15 o15 h16 o16 h17 o17 h18 o18 h19 o19 h20 o20 h21 o21 h22 o22 h23 o23 h24 o24 h25 o25 h26 o26 h27 o27 h28 o28 h29 o29 h30 o30 h31 o31 h32 o32 h33 o33 h34 o34 h35 o35 h36 o36 h37 o37 h38 o38 h39 o39 h40 o40 h41 o41 h42 o42 h43 o43 h44 o44 h45 o45 h46 o46 h47 o47 h48 o48 h49 o49 h50 o50 h51 o51 h52 o52 h53 o53 h54 o54 h55 o55 h56 o56 h57 o57 h58 o58 h59 o59 h60 o60 h61 o61 h62 o62 h63 o63 h64 o64 h65 o65 h66 o66 h67 o67 h68 o68 h69 o69 h70 o70 h71 o71 h72 o72 h73 o73 h74 o74 h75 o75 h76 o76 h77 o77 h78 o78 h79 o79 h80 o80 h81 o81 h82 o82 h83 o83 h84 o84 h85 o85 h86 o86 h87 o87 h88 o88 h89 o89 h90 o90 h91 o91 h92 o92 h93 o93 h94 o94 h95 o95 h96 o96 h97 o97 h98 o98 h99 o99 h100 o100 h101 o101 h102 o102 h103 o103 h104 o104 h105 o105 h106 o106 h107 o107 h108 o108 h109 o109 h110 o110 h111 o111 h112 o112 h113 o113 h114 o114 h115 o115 h116 o116 h117 o117 h118 o118 h119 o119 h120 o120 h121 o121 h122 o122 h123 o123 h124 o124 h125 o125 h126 o126 h127 o127 h128 o128 h129 o129 h130 o130 h131 o131 h132 o132 h133 o133 h134 o134 h135 o135 h136 o136 h137 o137 h138 o138 h139 o139 h140 o140 h141 o141 h142 o142 h143 o143 h144 o144 h145 o145 h147 o147 h148 o148 h149 o149 h150 o150 h151 o151 h152 o152 h153 o153 h154 o154 h155 o155 h156 o156 h157 o157 h158 o158 h159 o159 h160 o160 h161 o161 h162 o162 h163 o163 h164 o164 h165 o165 h166 o166 h167 o167 h168 o168 h169 o169 h170 o170 h171 o171
end Go.Ev
namespace Go.Ev
open Go Go.Proofs
set_option maxRecDepth 10000
set_option linter.unusedVariables false
set_option linter.unusedSimpArgs false
theorem ix123_1 (l : List Int) (hl : l.length ≤ 9223372036854775806) (p : Int → Bool) (g : Nat) (a : Nat) (os : List (Nat → Option Ob)) (ho : os.length ≠ 0) (hp : ∀ x ∈ l, ∀ b0 : Nat → Option Ob, run EE g (I x :: [.ptr 0 a 0]) (b0 :: os) = some (.bool (p x), b0 :: os)) (hu : (EE.H g).uniq = [] := by kernel_rfl) : run EE 123 [.slc false 1 (l.map I), .fn g [.ptr 0 a 0]] os = some (.int .i64 (posP p l 0), os) := by
  have ho2 : (0 != os.length) = true := by simp; omega
  rw [run_eq EE 123 _ _ Try.func123 (by decide +kernel) rfl (show 2 ≤ _ by decide)]
  dsimp only [Try.f123]
  simp only [go_sem, ho, ho2, hu, Bool.not_false, Bool.true_or, Bool.and_self]
  refine iter_inv (fun i : Nat => i ≤ l.length) (fun i => { t := upd (upd (upd (upd e0 8 (.int .i64 i)) 7 (.int .i64 l.length)) 1 (.fn g [.ptr 0 a 0])) 0 (.slc false 1 (l.map I)), b := n0, o := os, r := #[ResultVar.tmp 4], f := 123, n := 19 }) (fun i => some (.int .i64 (posP p (l.drop i) i), os)) (fun i => l.length - i) ?_ 0 (Nat.zero_le _)
  intro i hi ih
  by_cases h : i < l.length
  · have h1 : (i : Int) < l.length := by omega
    have w := wrap_nat (n := i) (by omega)
    have hx := hp l[i] (List.getElem_mem h) n0
    rw [List.drop_eq_getElem_cons h, posP]
    generalize p l[i] = q at hx ⊢
    try simp only [Rx.enc_eq, Vals.enc, Mor.enc, Sta.enc, Con.enc, Line.enc, Ans.enc, Prob.enc, Prog.enc, Ses.enc, Equ.enc, Mon.enc, Frm.enc, Mov.enc, Stp.enc, Dfa.enc, IL, I, B] at hx
    simp only [go_sem, h1, w, getD_map h, ho, ho2, hu, hx]
    cases q
    · simp only [go_sem, w, ho, ho2, hu, Bool.false_eq_true, if_false]
      exact ih (i + 1) (by omega) (by omega)
    · simp only [go_sem, if_true]
  · have h1 : ¬ (i : Int) < l.length := by omega
    rw [List.drop_eq_nil_of_le (by omega)]
    simp only [go_sem, h1, posP]
theorem cf80_1 (l : List Int) (hl : l.length ≤ 9223372036854775806) (p : Int → Bool) (g : Nat) (a : Nat) (os : List (Nat → Option Ob)) (ho : os.length ≠ 0) (hp : ∀ x ∈ l, ∀ b0 b1 : Nat → Option Ob, run EE g (I x :: [.ptr 0 a 0]) (b0 :: b1 :: os) = some (.bool (p x), b0 :: b1 :: os)) (hu : (EE.H g).uniq = [] := by kernel_rfl) : run EE 80 [.slc false 1 (l.map I), .fn g [.ptr 0 a 0]] os = some (.bool (l.any p), os) := by
  have hi := ix123_1 l hl p g a (n0 :: os) (by simp) (fun x hx b0 => hp x hx b0 n0) hu
  rw [run_eq EE 80 _ _ Try.func80 (by decide +kernel) rfl (show 2 ≤ _ by decide)]
  dsimp only [Try.f80]
  simp only [go_sem, ho, hu, hi, Bool.not_false, Bool.true_or, Bool.and_self]
  rw [← posP_any p l 0]

theorem ix142_1 (l : List (List Int)) (hl : l.length ≤ 9223372036854775806) (p : (List Int) → Bool) (g : Nat) (a : Nat) (os : List (Nat → Option Ob)) (ho : os.length ≠ 0) (hp : ∀ x ∈ l, ∀ b0 : Nat → Option Ob, run EE g (IL x :: [.ptr 0 a 0]) (b0 :: os) = some (.bool (p x), b0 :: os)) (hu : (EE.H g).uniq = [] := by kernel_rfl) : run EE 142 [.slc false 1 (l.map IL), .fn g [.ptr 0 a 0]] os = some (.int .i64 (posP p l 0), os) := by
  have ho2 : (0 != os.length) = true := by simp; omega
  rw [run_eq EE 142 _ _ Try.func142 (by decide +kernel) rfl (show 2 ≤ _ by decide)]
  dsimp only [Try.f142]
  simp only [go_sem, ho, ho2, hu, Bool.not_false, Bool.true_or, Bool.and_self]
  refine iter_inv (fun i : Nat => i ≤ l.length) (fun i => { t := upd (upd (upd (upd e0 8 (.int .i64 i)) 7 (.int .i64 l.length)) 1 (.fn g [.ptr 0 a 0])) 0 (.slc false 1 (l.map IL)), b := n0, o := os, r := #[ResultVar.tmp 4], f := 142, n := 19 }) (fun i => some (.int .i64 (posP p (l.drop i) i), os)) (fun i => l.length - i) ?_ 0 (Nat.zero_le _)
  intro i hi ih
  by_cases h : i < l.length
  · have h1 : (i : Int) < l.length := by omega
    have w := wrap_nat (n := i) (by omega)
    have hx := hp l[i] (List.getElem_mem h) n0
    rw [List.drop_eq_getElem_cons h, posP]
    generalize p l[i] = q at hx ⊢
    try simp only [Rx.enc_eq, Vals.enc, Mor.enc, Sta.enc, Con.enc, Line.enc, Ans.enc, Prob.enc, Prog.enc, Ses.enc, Equ.enc, Mon.enc, Frm.enc, Mov.enc, Stp.enc, Dfa.enc, IL, I, B] at hx
    simp only [go_sem, h1, w, getD_map h, ho, ho2, hu, hx]
    cases q
    · simp only [go_sem, w, ho, ho2, hu, Bool.false_eq_true, if_false]
      exact ih (i + 1) (by omega) (by omega)
    · simp only [go_sem, if_true]
  · have h1 : ¬ (i : Int) < l.length := by omega
    rw [List.drop_eq_nil_of_le (by omega)]
    simp only [go_sem, h1, posP]
theorem cf107_1 (l : List (List Int)) (hl : l.length ≤ 9223372036854775806) (p : (List Int) → Bool) (g : Nat) (a : Nat) (os : List (Nat → Option Ob)) (ho : os.length ≠ 0) (hp : ∀ x ∈ l, ∀ b0 b1 : Nat → Option Ob, run EE g (IL x :: [.ptr 0 a 0]) (b0 :: b1 :: os) = some (.bool (p x), b0 :: b1 :: os)) (hu : (EE.H g).uniq = [] := by kernel_rfl) : run EE 107 [.slc false 1 (l.map IL), .fn g [.ptr 0 a 0]] os = some (.bool (l.any p), os) := by
  have hi := ix142_1 l hl p g a (n0 :: os) (by simp) (fun x hx b0 => hp x hx b0 n0) hu
  rw [run_eq EE 107 _ _ Try.func107 (by decide +kernel) rfl (show 2 ≤ _ by decide)]
  dsimp only [Try.f107]
  simp only [go_sem, ho, hu, hi, Bool.not_false, Bool.true_or, Bool.and_self]
  rw [← posP_any p l 0]
end Go.Ev
namespace Go.Ev
open Go Go.Proofs
set_option maxRecDepth 10000
set_option linter.unusedVariables false
set_option linter.unusedSimpArgs false

theorem r87 (c : Int) (h : 0 ≤ c) (h' : c < 256) : run EE 87 [.int .u8 c] [] = some (.int .i64 (ltr c), []) := by
  rw [run_eq EE 87 _ _ Try.func87 (by decide +kernel) rfl (show 1 ≤ _ by decide)]
  dsimp only [Try.f87]
  simp only [go_sem, o83, idx_abc c h h']
theorem r104 (c : Int) : run EE 104 [.int .u8 c] [] = some (.int .i64 (ltr c), []) := by
  rw [run_eq EE 104 _ _ Try.func104 (by decide +kernel) rfl (show 1 ≤ _ by decide)]
  dsimp only [Try.f104]
  have b0 : bt ⟨#[97, 98, 99]⟩ 0 = 97 := by decide +kernel
  have b1 : bt ⟨#[97, 98, 99]⟩ 1 = 98 := by decide +kernel
  have b2 : bt ⟨#[97, 98, 99]⟩ 2 = 99 := by decide +kernel
  have hz : ByteArray.size ⟨#[97, 98, 99]⟩ = 3 := by decide
  simp only [go_sem, iter_eq, b0, hz]
  refine condL_bool (fun k => ?_) (fun k => ?_)
  · have e : c = 97 := by have := eq_of_beq k; omega
    subst e
    simp only [go_sem, ltr]
  · have e : ¬ c = 97 := by intro e; subst e; cases k
    simp only [go_sem, iter_eq, b1, hz]
    refine condL_bool (fun k => ?_) (fun k => ?_)
    · have e' : c = 98 := by have := eq_of_beq k; omega
      subst e'
      simp only [go_sem, ltr]
    · have e' : ¬ c = 98 := by intro e; subst e; cases k
      simp only [go_sem, iter_eq, b2, hz]
      refine condL_bool (fun k => ?_) (fun k => ?_)
      · have e'' : c = 99 := by have := eq_of_beq k; omega
        subst e''
        simp only [go_sem, ltr]
      · have e'' : ¬ c = 99 := by intro e; subst e; cases k
        simp only [go_sem, iter_eq, ltr, e, e', e'']
theorem r96 (a b c : Int) : run EE 96 [.int .i64 a, .int .i64 b, .int .i64 c] [] = some (.bool (decide (b ≤ a) && decide (a ≤ c)), []) := by
  rw [run_eq EE 96 _ _ Try.func96 (by decide +kernel) rfl (show 3 ≤ _ by decide)]
  dsimp only [Try.f96]
  simp only [go_sem]
  refine guardL_bool (fun k => ?_) (fun k => ?_) <;> simp only [go_sem, k, ge_iff_le, Bool.true_and, Bool.false_and] at k ⊢ <;> simp only [go_sem, k, Bool.true_and, Bool.false_and]
theorem r78 (a b c : Int) : run EE 78 [.int .i64 a, .int .i64 b, .int .i64 c] [] = some (.bool (decide (b ≤ a) && decide (a ≤ c)), []) := by
  rw [run_eq EE 78 _ _ Try.func78 (by decide +kernel) rfl (show 3 ≤ _ by decide)]
  dsimp only [Try.f78]
  simp only [go_sem]
  refine guardL_bool (fun k => ?_) (fun k => ?_) <;> simp only [go_sem, k, ge_iff_le, Bool.true_and, Bool.false_and] at k ⊢ <;> simp only [go_sem, k, Bool.true_and, Bool.false_and]
end Go.Ev
namespace Go.Ev
open Go Go.Proofs
set_option maxRecDepth 10000
set_option linter.unusedVariables false
set_option linter.unusedSimpArgs false

theorem r109 (q n : Int) (a : Nat) (os : List (Nat → Option Ob)) (ho : os.length ≠ 0) (hob : obIn a 0 os = some (.box [.int .i64 n])) (h0 : 0 ≤ n) (h1 : n ≤ 1048576) : run EE 109 [.int .i64 q, .ptr 0 a 0] os = some (.bool (!(decide (0 ≤ q) && decide (q ≤ n - 1))), os) := by
  have w := wrap_in (n := n - 1) (by omega) (by omega)
  have f := r78 q 0 (n - 1)
  have ho' : ¬ 0 = os.length := fun e => ho e.symm
  rw [run_eq EE 109 _ _ Try.func109 (by decide +kernel) rfl (show 2 ≤ _ by decide)]
  dsimp only [Try.f109]
  simp only [go_sem, ho', hob, w, f]
theorem r108 (row : List Int) (hl : row.length ≤ 1048576) (n : Int) (a : Nat) (os : List (Nat → Option Ob)) (ho : os.length ≠ 0) (hob : obIn a 0 os = some (.box [.int .i64 n])) (h0 : 0 ≤ n) (h1 : n ≤ 1048576) : run EE 108 [IL row, .ptr 0 a 0] os = some (.bool (!rowOk n row), os) := by
  have f := cf80_1 row (by omega) (fun q => !(decide (0 ≤ q) && decide (q ≤ n - 1))) 109 a (n0 :: os) (by simp) (fun x _ b0 b1 => r109 x n a _ (by simp) (by rw [obIn_cons (by simp), obIn_cons (by simp), obIn_cons ho]; exact hob) h0 h1)
  rw [any_not] at f
  rw [run_eq EE 108 _ _ Try.func108 (by decide +kernel) rfl (show 2 ≤ _ by decide)]
  dsimp only [Try.f108]
  unfold rowOk
  cases k : ((row.length : Int) == 3)
  · simp only [go_sem, bne, k, Bool.not_false, Bool.false_and]
  · simp only [go_sem, bne, k, f, Bool.not_true, Bool.not_false, Bool.true_and]
theorem r53 (d : Dfa) (h1 : d.accept.length ≤ 1048576) (h2 : d.next.length ≤ 1048576) (h3 : ∀ r ∈ d.next, r.length ≤ 1048576) : run EE 53 [d.enc] [] = some (.bool (validD d), []) := by
  have wi := r78 d.accept.length 1 40
  rw [run_eq EE 53 _ _ Try.func53 (by decide +kernel) rfl (show 1 ≤ _ by decide)]
  dsimp only [Try.f53]
  unfold validD
  cases k1 : (decide (1 ≤ (d.accept.length : Int)) && decide ((d.accept.length : Int) ≤ 40))
  · rw [k1] at wi
    simp only [go_sem, wi, Bool.not_false, Bool.false_and]
  rw [k1] at wi
  cases k2 : ((d.next.length : Int) == d.accept.length)
  · simp only [go_sem, wi, bne, k2, Bool.not_true, Bool.not_false, Bool.true_and, Bool.false_and]
  have f := fun (b : Nat → Option Ob) (hb : b 3 = some (.box [.int .i64 (d.accept.length : Int)])) => cf107_1 d.next (by omega) (fun row => !rowOk d.accept.length row) 108 3 [b] (by simp) (fun x hx b0 b1 => r108 x (h3 x hx) d.accept.length 3 _ (by simp) hb (by omega) (by omega))
  simp only [any_not] at f
  simp only [go_sem, wi, bne, k2, Bool.not_true, Bool.not_false, Bool.true_and]
  rw [f _ rfl]
  simp only [go_sem, Bool.not_not]
end Go.Ev
namespace Go.Ev
open Go Go.Proofs
set_option maxRecDepth 10000
set_option linter.unusedVariables false
set_option linter.unusedSimpArgs false

theorem r46 (d : Dfa) (h1 : d.accept.length ≤ 1048576) (h2 : d.next.length ≤ 1048576) (h3 : ∀ r ∈ d.next, r.length ≤ 1048576) : run EE 46 [d.enc] [] = some (.bool (validD d), []) := by
  have wi := r96 d.accept.length 1 40
  rw [run_eq EE 46 _ _ Try.func46 (by decide +kernel) rfl (show 1 ≤ _ by decide)]
  dsimp only [Try.f46]
  unfold validD
  cases k1 : (decide (1 ≤ (d.accept.length : Int)) && decide ((d.accept.length : Int) ≤ 40))
  · rw [k1] at wi
    simp only [go_sem, wi, Bool.not_false, Bool.false_and]
  rw [k1] at wi
  cases k2 : ((d.next.length : Int) == d.accept.length)
  · simp only [go_sem, wi, bne, k2, Bool.not_true, Bool.not_false, Bool.true_and, Bool.false_and]
  simp only [go_sem, wi, bne, k2, Bool.not_true, Bool.not_false, Bool.true_and]
  have hn : d.next.length = d.accept.length := by have := eq_of_beq k2; omega
  have hpos : 1 ≤ d.accept.length := by
    have := (Bool.and_eq_true_iff.1 k1).1
    have := of_decide_eq_true this
    omega
  have w0 : IntKind.i64.wrap ((d.accept.length : Int) - 1) = (d.accept.length : Int) - 1 := wrap_in (by omega) (by omega)
  refine iter_inv (fun i : Nat => i ≤ d.next.length) (fun i => { t := upd (upd (upd e0 4 (.int .i64 i)) 3 (.int .i64 d.accept.length)) 1 (.ptr 0 1 0), b := upd n0 1 (some (Ob.box [.slc false 1 (d.accept.map B), .slc false 1 (d.next.map IL)])), o := [], r := #[ResultVar.tmp 2], f := 46, n := 53 }) (fun i => some (.bool ((d.next.drop i).all (rowOk d.accept.length)), [])) (fun i => d.next.length - i) ?_ 0 (Nat.zero_le _)
  intro i hi ih
  by_cases h : i < d.next.length
  rotate_left
  · have k1 : ¬ (i : Int) < d.accept.length := by omega
    rw [List.drop_eq_nil_of_le (by omega)]
    simp only [go_sem, k1, List.all_nil]
  have k1' : (i : Int) < d.accept.length := by omega
  have k1'' : (i : Int) < d.next.length := by omega
  have w := wrap_nat (n := i) (by omega)
  have hr := h3 d.next[i] (List.getElem_mem h)
  rw [List.drop_eq_getElem_cons h, List.all_cons]
  have ihn := ih (i + 1) (by omega) (by omega)
  clear ih
  generalize hrow : d.next[i] = row at hr ⊢
  have hget : ∀ dd : V, (d.next.map IL).getD i dd = IL row := fun dd => by rw [getD_map h, hrow]
  unfold rowOk
  cases k3 : ((row.length : Int) == 3)
  · simp only [go_sem, k1', k1'', hget, bne, k3, Bool.not_false, Bool.false_and]
  simp only [go_sem, k1', k1'', hget, bne, k3, Bool.not_true, Bool.true_and]
  refine iter_inv (fun j : Nat => j ≤ row.length) (fun j => { t := upd (upd (upd (upd e0 5 (.int .i64 j)) 4 (.int .i64 i)) 3 (.int .i64 d.accept.length)) 1 (.ptr 0 1 0), b := upd n0 1 (some (Ob.box [.slc false 1 (d.accept.map B), .slc false 1 (d.next.map IL)])), o := [], r := #[ResultVar.tmp 2], f := 46, n := 53 }) (fun j => some (.bool ((row.drop j).all (fun q => decide (0 ≤ q) && decide (q ≤ (d.accept.length : Int) - 1)) && (d.next.drop (i + 1)).all (rowOk d.accept.length)), [])) (fun j => row.length - j) ?_ 0 (Nat.zero_le _)
  intro j hj ih2
  by_cases hjl : j < row.length
  · have j1 : (j : Int) < row.length := by omega
    have wj := wrap_nat (n := j) (by omega)
    rw [List.drop_eq_getElem_cons hjl, List.all_cons]
    have f := r96 row[j] 0 ((d.accept.length : Int) - 1)
    generalize hq : row[j] = q at f ⊢
    have hget2 : ∀ dd : V, (row.map I).getD j dd = I q := fun dd => by rw [getD_map hjl, hq]
    cases c : (decide (0 ≤ q) && decide (q ≤ (d.accept.length : Int) - 1))
    · rw [c] at f
      simp only [go_sem, k1'', hget, hget2, j1, w0, f, Bool.not_false, Bool.false_and]
    · rw [c] at f
      simp only [go_sem, k1'', hget, hget2, j1, w0, wj, f, Bool.not_true, Bool.true_and]
      exact ih2 (j + 1) (by omega) (by omega)
  · have j1 : ¬ (j : Int) < row.length := by omega
    rw [List.drop_eq_nil_of_le (by omega), List.all_nil, Bool.true_and]
    simp only [go_sem, k1', k1'', hget, j1, w]
    exact ihn
theorem r106 (l : List Int) (hl : l.length ≤ 1048576) (n : Int) : run EE 106 [.slc false 1 (l.map I), .int .i64 n] [] = some (.int .i64 (posP (fun x => x == n) l 0), []) := by
  rw [run_eq EE 106 _ _ Try.func106 (by decide +kernel) rfl (show 2 ≤ _ by decide)]
  dsimp only [Try.f106]
  simp only [go_sem]
  refine iter_inv (fun i : Nat => i ≤ l.length) (fun i => { t := upd (upd (upd e0 5 (.int .i64 i)) 1 (.int .i64 n)) 0 (.slc false 1 (l.map I)), b := n0, o := [], r := #[ResultVar.tmp 4], f := 106, n := 19 }) (fun i => some (.int .i64 (posP (fun x => x == n) (l.drop i) i), [])) (fun i => l.length - i) ?_ 0 (Nat.zero_le _)
  intro i hi ih
  by_cases h : i < l.length
  · have h1 : (i : Int) < l.length := by omega
    have w := wrap_nat (n := i) (by omega)
    rw [List.drop_eq_getElem_cons h, posP]
    cases c : (l[i] == n)
    · simp only [go_sem, h1, w, getD_map h, c, Bool.false_eq_true, if_false]
      exact ih (i + 1) (by omega) (by omega)
    · simp only [go_sem, h1, w, getD_map h, c, if_true]
  · have h1 : ¬ (i : Int) < l.length := by omega
    rw [List.drop_eq_nil_of_le (by omega)]
    simp only [go_sem, h1, posP]
end Go.Ev
namespace Go.Ev
open Go Go.Proofs
set_option maxRecDepth 10000
set_option linter.unusedVariables false
set_option linter.unusedSimpArgs false

theorem r141 (d : DN) (ho : d.ok) (c : List Nat) (hc : c.length = d.accept.length) (p q : Nat) (hp : p < c.length) (hq : q < c.length) (hn : c.length ≤ 1048576) : run EE 141 [d.enc, .slc false 1 (c.map IN), .int .i64 p, .int .i64 q] [] = some (.bool (sameC d c p q), []) := by
  have p1 : (p : Int) < c.length := by omega
  have q1 : (q : Int) < c.length := by omega
  have p2 : (p : Int) < d.next.length := by rw [ho.1]; omega
  have q2 : (q : Int) < d.next.length := by rw [ho.1]; omega
  have p3 : p < d.next.length := by rw [ho.1]; omega
  have q3 : q < d.next.length := by rw [ho.1]; omega
  obtain ⟨a1, a2, a3⟩ := DN.nx_lt ho (q := p) (by omega)
  obtain ⟨b1, b2, b3⟩ := DN.nx_lt ho (q := q) (by omega)
  rw [← hc] at a1 a2 a3 b1 b2 b3
  have a1' : ((d.nx p).1 : Int) < c.length := by omega
  have a2' : ((d.nx p).2.1 : Int) < c.length := by omega
  have a3' : ((d.nx p).2.2 : Int) < c.length := by omega
  have b1' : ((d.nx q).1 : Int) < c.length := by omega
  have b2' : ((d.nx q).2.1 : Int) < c.length := by omega
  have b3' : ((d.nx q).2.2 : Int) < c.length := by omega
  rw [run_eq EE 141 _ _ Try.func141 (by decide +kernel) rfl (show 4 ≤ _ by decide)]
  dsimp only [Try.f141]
  simp only [go_sem]
  rw [q_drs]
  rotate_left
  · kernel_rfl
  simp only [go_sem, p1, q1, getD_IN hp, getD_IN hq, nat_beq]
  unfold sameC
  generalize (cl c p == cl c q) = s0
  simp only [iter_eq, go_sem]
  rw [q_drs]
  rotate_left
  · kernel_rfl
  have step : ∀ (x y : Nat) (s0 : Bool), V.ite s0 (.bool s0) (.bool false) = .bool s0 := by intro _ _ s0; cases s0 <;> rfl
  cases s0
  · simp only [go_sem, iter_eq, Bool.false_and]
    rw [q_drs]
    rotate_left
    · kernel_rfl
    simp only [go_sem, iter_eq]
    rw [q_drs]
    rotate_left
    · kernel_rfl
    simp only [go_sem, iter_eq]
  simp only [go_sem, iter_eq, p2, q2, getD_NT p3, getD_NT q3, a1', b1', getD_IN a1, getD_IN b1, nat_beq, Bool.true_and]
  rw [q_drs]
  rotate_left
  · kernel_rfl
  cases k1 : (cl c (d.nx p).1 == cl c (d.nx q).1)
  · simp only [go_sem, iter_eq, Bool.false_and]
    rw [q_drs]
    rotate_left
    · kernel_rfl
    simp only [go_sem, iter_eq]
  simp only [go_sem, iter_eq, p2, q2, getD_NT p3, getD_NT q3, a2', b2', getD_IN a2, getD_IN b2, nat_beq, Bool.true_and]
  rw [q_drs]
  rotate_left
  · kernel_rfl
  cases k2 : (cl c (d.nx p).2.1 == cl c (d.nx q).2.1)
  · simp only [go_sem, iter_eq, Bool.false_and]
  simp only [go_sem, iter_eq, p2, q2, getD_NT p3, getD_NT q3, a3', b3', getD_IN a3, getD_IN b3, nat_beq, Bool.true_and]
end Go.Ev
