/- What the evaluator is told of the functions, printed by a program. Searches. Leaves: letters, ranges. Automata: validity. -/
import Derived.Test.YtcjaokcpijkceaaEvN
import Derived.Test.YtcjaokcpijkceaaEvJ
import Derived.Test.YtcjaokcpijkceaaEvK
set_option linter.unusedVariables false
set_option linter.unusedSimpArgs false
namespace Go.Ev
open Go Go.Proofs
def hints : List (Nat × Hint) := [(5, ⟨[25, 37, 92], [], [], [], [], [], [], [], []⟩),
  (6, ⟨[24, 33, 80], [], [], [], [], [], [], [], []⟩),
  (7, ⟨[24, 33, 80], [], [], [], [], [], [], [], []⟩),
  (8, ⟨[26, 36, 84], [], [], [], [], [], [], [], []⟩),
  (9, ⟨[4, 11], [], [], [], [], [], [], [], []⟩),
  (10, ⟨[2], [], [⟨0, [1, 3], [1]⟩], [], [], [], [], [], []⟩),
  (12, ⟨[2], [], [], [], [], [], [], [], []⟩),
  (14, ⟨[4, 23], [], [], [], [], [], [], [], []⟩),
  (15, ⟨[4, 25], [], [], [], [], [], [], [], []⟩),
  (16, ⟨[4, 5, 16, 47, 89, 104], [], [⟨0, [2, 3, 5, 6, 7], [2, 3]⟩, ⟨2, [2, 3, 5, 6, 7, 8, 9, 10], [2, 3]⟩], [], [], [], [], [], []⟩),
  (19, ⟨[4, 122], [], [⟨0, [3, 5, 7, 8, 54, 55, 56], [2, 3, 5, 7, 8]⟩, ⟨2, [3, 5, 7, 8, 11, 13, 14, 54, 55, 56, 99, 100], [2, 3, 5, 7, 8, 10, 11, 12]⟩], [], [], [], [], [], []⟩),
  (20, ⟨[], [], [⟨0, [0, 1, 5], []⟩], [], [], [], [], [], []⟩),
  (23, ⟨[4, 13], [], [], [], [], [], [], [], []⟩),
  (24, ⟨[4, 9], [], [], [], [], [], [], [], []⟩),
  (25, ⟨[4, 56], [], [⟨0, [0, 1, 5], []⟩], [], [], [], [], [], []⟩),
  (26, ⟨[4, 66], [], [⟨0, [0, 1, 5], []⟩], [], [], [], [], [], []⟩),
  (27, ⟨[4, 11], [], [], [], [], [], [], [], []⟩),
  (28, ⟨[47], [], [⟨0, [1, 2, 4, 6, 7], [2, 4, 6]⟩], [], [], [], [], [], []⟩),
  (30, ⟨[2, 21], [7], [⟨0, [0, 3, 4], [7]⟩], [], [], [], [], [], []⟩),
  (31, ⟨[], [], [⟨0, [1, 2, 4, 6, 13, 14, 15], [2, 4]⟩], [], [], [], [], [], []⟩),
  (33, ⟨[], [], [⟨0, [0, 1, 5], []⟩], [], [], [], [], [], []⟩),
  (34, ⟨[4, 9], [], [], [], [], [], [], [], []⟩),
  (35, ⟨[4, 18], [], [⟨0, [0, 1, 5], []⟩], [], [], [], [], [], []⟩),
  (36, ⟨[4, 11], [], [], [], [], [], [], [], []⟩),
  (37, ⟨[4, 17], [], [], [], [], [], [], [], []⟩),
  (38, ⟨[28], [], [⟨0, [1, 2, 4, 6, 7], [2, 4, 6]⟩], [], [], [], [], [], []⟩),
  (40, ⟨[27], [], [⟨0, [1, 2, 4, 6, 22, 23], [2, 4, 6]⟩], [], [], [], [], [], []⟩),
  (42, ⟨[4, 13], [], [], [], [], [], [], [], []⟩),
  (43, ⟨[4, 17], [], [], [], [], [], [], [], []⟩),
  (44, ⟨[8], [], [], [], [], [], [], [], []⟩),
  (46, ⟨[4, 26], [], [], [], [], [], [], [], []⟩),
  (47, ⟨[33], [], [⟨0, [2, 3, 4, 6, 7], [2, 3, 4, 6]⟩, ⟨2, [2, 3, 4, 6, 7, 8], [2, 3, 4, 6]⟩], [], [], [], [], [], []⟩),
  (49, ⟨[27], [], [⟨0, [2, 3, 4, 6, 22, 23], [2, 3, 4, 6]⟩], [], [], [], [], [], []⟩),
  (50, ⟨[4, 26], [], [⟨0, [0, 1, 5], []⟩], [], [], [], [], [], []⟩),
  (51, ⟨[2, 49], [], [], [], [], [], [], [], []⟩),
  (52, ⟨[2, 22], [7], [⟨0, [0, 3, 4], [7]⟩], [], [], [], [], [], []⟩),
  (53, ⟨[4], [], [], [], [], [], [], [], []⟩),
  (54, ⟨[2], [], [], [], [], [], [], [], []⟩),
  (55, ⟨[2, 41], [], [], [], [], [], [], [], []⟩),
  (56, ⟨[], [], [⟨0, [0, 1, 5], []⟩], [], [], [], [], [], []⟩),
  (57, ⟨[4, 19], [], [], [], [], [], [], [], []⟩),
  (58, ⟨[4, 23], [], [], [], [], [], [], [], []⟩),
  (59, ⟨[4, 26], [], [⟨0, [0, 1, 5], []⟩], [], [], [], [], [], []⟩),
  (60, ⟨[4, 11], [], [], [], [], [], [], [], []⟩),
  (61, ⟨[], [], [⟨0, [5, 6], [2, 3]⟩], [], [], [], [], [], []⟩),
  (62, ⟨[2], [], [], [], [], [], [], [], []⟩),
  (63, ⟨[2], [], [], [], [], [], [], [], []⟩),
  (64, ⟨[], [8], [], [], [], [23], [], [], []⟩),
  (65, ⟨[6], [], [], [], [], [], [], [], []⟩),
  (68, ⟨[2, 22], [7], [⟨0, [0, 3, 4], [7]⟩], [], [], [], [], [], []⟩),
  (69, ⟨[3], [], [], [], [], [], [], [], []⟩),
  (70, ⟨[6], [], [], [], [], [], [], [], []⟩),
  (71, ⟨[2], [], [], [], [], [], [], [], []⟩),
  (72, ⟨[4], [], [], [], [], [], [], [], []⟩),
  (73, ⟨[], [], [⟨0, [0, 3], []⟩], [], [], [], [], [], []⟩),
  (74, ⟨[2, 5, 59, 74, 87], [], [⟨0, [5, 49, 50, 51], [1]⟩], [], [], [], [], [], []⟩),
  (75, ⟨[4], [], [], [], [], [], [], [], []⟩),
  (77, ⟨[7, 15], [7], [], [], [], [10], [21], [], []⟩),
  (78, ⟨[2], [], [], [], [], [7], [], [], []⟩),
  (79, ⟨[2], [], [], [], [], [], [], [], []⟩),
  (83, ⟨[], [], [⟨0, [0, 1, 5], []⟩], [], [], [], [], [], []⟩),
  (84, ⟨[4, 17], [], [], [], [], [], [], [], []⟩),
  (85, ⟨[4, 18], [], [⟨0, [0, 1, 5], []⟩], [], [], [], [], [], []⟩),
  (86, ⟨[2], [], [⟨0, [0, 3], []⟩], [], [], [], [], [], []⟩),
  (87, ⟨[4, 20], [], [⟨0, [0, 1, 5], []⟩], [], [], [], [], [], []⟩),
  (88, ⟨[4, 26], [], [⟨0, [0, 1, 5], []⟩], [], [], [], [], [], []⟩),
  (89, ⟨[2], [], [⟨0, [1, 3], [1]⟩], [], [], [], [], [], []⟩),
  (90, ⟨[6], [], [], [], [], [], [], [], []⟩),
  (92, ⟨[2, 22], [7], [⟨0, [0, 3, 4], [7]⟩], [], [], [], [], [], []⟩),
  (93, ⟨[2], [], [], [], [], [], [], [], []⟩),
  (94, ⟨[16], [], [⟨0, [2, 4, 5, 9, 10, 11], [2, 4, 5]⟩], [], [], [], [], [], []⟩),
  (95, ⟨[], [], [⟨0, [0, 1, 5], []⟩], [], [], [], [], [], []⟩),
  (96, ⟨[4, 74], [], [⟨0, [0, 1, 5], []⟩], [], [], [], [], [], []⟩),
  (97, ⟨[4, 90], [], [⟨0, [0, 1, 5], []⟩], [], [], [], [], [], []⟩),
  (98, ⟨[4, 11], [], [], [], [], [], [], [], []⟩),
  (99, ⟨[], [], [⟨0, [1, 3, 4], [1]⟩, ⟨2, [1, 3, 4, 5], [1]⟩], [], [], [], [], [], []⟩),
  (100, ⟨[2], [], [⟨0, [0, 3], []⟩], [], [], [], [], [], []⟩),
  (101, ⟨[18], [], [⟨0, [1, 2, 3, 4], [1, 2, 3]⟩], [], [], [], [], [], []⟩),
  (102, ⟨[6, 45], [], [⟨0, [2, 3, 8, 9], [3]⟩], [], [], [], [], [], []⟩),
  (103, ⟨[4, 7, 46, 50, 57, 70, 75], [], [⟨0, [1, 2, 3, 4, 5, 6], [1, 2, 5]⟩, ⟨2, [1, 2, 3, 4, 5, 6, 7, 8], [1, 2, 5]⟩], [], [(15, [0, 2, 3, 4, 5, 6, 7, 8, 9, 10, 1, 11, 12, 13])], [67], [], [], []⟩),
  (104, ⟨[2, 21], [7], [⟨0, [0, 3, 4], [7]⟩], [], [], [], [], [], []⟩),
  (105, ⟨[2], [], [], [], [], [], [], [], []⟩),
  (106, ⟨[2], [], [], [], [], [], [], [], []⟩),
  (107, ⟨[6, 25], [], [⟨0, [1, 2, 3, 7], [3]⟩], [], [], [], [], [], []⟩),
  (108, ⟨[5, 27, 33, 60, 72, 133, 167, 185, 210, 223, 236], [79, 99], [⟨0, [2, 4, 5, 6, 7], [2, 4, 38]⟩, ⟨2, [2, 4, 5, 6, 7, 54, 55, 56], [2, 4, 38]⟩, ⟨4, [2, 4, 5, 6, 12, 80, 81, 82], [2, 4, 38, 79]⟩, ⟨6, [2, 4, 5, 6, 12, 15], [2, 4, 38]⟩, ⟨8, [2, 4, 5, 6, 12, 15, 16, 17, 100, 101, 102], [2, 4, 38, 96, 99]⟩, ⟨10, [2, 4, 5, 6, 12, 15, 16, 17, 18, 20, 100, 101, 102, 116, 117, 118], [2, 4, 20, 38, 96, 99]⟩, ⟨12, [2, 4, 5, 6, 12, 25, 26, 27, 163, 164], [2, 4, 25, 38, 160]⟩, ⟨14, [2, 4, 5, 6, 12, 25, 26, 190, 191, 192], [2, 4, 25, 38, 160]⟩, ⟨16, [2, 4, 5, 6, 12, 25, 26, 32, 33, 190, 191, 192, 204, 205, 206], [2, 4, 25, 38, 160]⟩], [], [(61, [0, 2, 3, 4, 5, 6, 7, 8, 9, 10, 1, 11, 12, 13])], [], [], [], []⟩),
  (109, ⟨[], [], [⟨0, [0, 1, 5], []⟩], [], [], [], [], [], []⟩),
  (110, ⟨[4, 20], [], [⟨0, [0, 1, 5], []⟩], [], [], [], [], [], []⟩),
  (111, ⟨[4, 22], [], [⟨0, [0, 1, 5], []⟩], [], [], [], [], [], []⟩),
  (112, ⟨[4, 20], [], [⟨0, [0, 1, 5], []⟩], [], [], [], [], [], []⟩),
  (113, ⟨[7, 22, 38, 50], [], [⟨0, [1, 2, 4, 5, 6], [2, 4, 5]⟩, ⟨2, [1, 2, 4, 5, 6, 7, 8], [2, 4, 5]⟩], [], [], [], [], [], []⟩),
  (114, ⟨[2], [], [], [], [], [], [], [], []⟩),
  (115, ⟨[4, 44], [], [⟨0, [1, 2, 5, 6], [2]⟩], [], [], [], [], [], []⟩),
  (116, ⟨[], [], [⟨0, [11, 12, 13], [1]⟩], [], [], [], [], [], []⟩),
  (117, ⟨[4, 24], [], [], [], [], [], [], [], []⟩),
  (118, ⟨[2], [], [], [], [], [], [], [], []⟩),
  (119, ⟨[3, 10, 16], [], [], [], [], [], [], [], []⟩),
  (121, ⟨[4, 17], [], [⟨0, [0, 1, 7, 8], []⟩], [], [], [], [], [], []⟩),
  (122, ⟨[3], [], [], [], [], [], [], [], []⟩),
  (123, ⟨[2], [], [], [], [], [], [], [], []⟩),
  (125, ⟨[], [], [⟨0, [1, 3, 4], [1]⟩], [], [], [], [], [], []⟩),
  (126, ⟨[], [], [⟨0, [0, 1, 5], []⟩], [], [], [], [], [], []⟩),
  (127, ⟨[2], [], [⟨0, [0, 3], []⟩], [], [], [], [], [], []⟩),
  (128, ⟨[], [], [⟨0, [1, 2, 3], [1, 2]⟩], [], [], [], [], [], []⟩),
  (129, ⟨[2], [], [], [], [], [], [], [], []⟩),
  (130, ⟨[4, 5, 10, 11, 23, 32], [], [], [], [], [], [], [], []⟩),
  (132, ⟨[2], [], [], [], [], [], [], [], []⟩),
  (133, ⟨[2, 12], [], [⟨0, [0, 3], []⟩], [], [], [], [], [], []⟩),
  (134, ⟨[3], [], [], [], [], [], [], [], []⟩),
  (135, ⟨[4], [], [], [], [], [], [], [], []⟩),
  (136, ⟨[4], [], [], [], [], [], [], [], []⟩),
  (137, ⟨[4, 17], [], [⟨0, [0, 1, 7, 8], []⟩], [], [], [], [], [], []⟩),
  (138, ⟨[2], [], [], [], [], [], [], [], []⟩),
  (139, ⟨[], [], [⟨0, [1, 2], [1, 2]⟩], [], [], [], [], [], []⟩),
  (140, ⟨[2], [], [], [], [], [], [], [], []⟩),
  (141, ⟨[4], [], [], [], [], [], [], [], []⟩),
  (142, ⟨[6], [], [], [], [], [], [], [], []⟩),
  (144, ⟨[4, 31], [], [], [], [], [], [], [], []⟩),
  (145, ⟨[2], [], [], [], [], [], [], [], []⟩),
  (146, ⟨[18], [], [⟨0, [1, 2, 3, 4], [1, 2, 3]⟩], [], [], [], [], [], []⟩),
  (148, ⟨[4], [], [], [], [], [], [], [], []⟩),
  (149, ⟨[2], [], [], [], [], [], [], [], []⟩),
  (150, ⟨[2], [], [], [], [], [], [], [], []⟩),
  (153, ⟨[4, 34], [], [⟨0, [0, 1, 5], []⟩], [], [], [], [], [], []⟩),
  (154, ⟨[4, 40], [], [⟨0, [0, 1, 5], []⟩], [], [], [], [], [], []⟩),
  (155, ⟨[2, 59], [14, 34], [⟨0, [1, 3, 4, 5], [1, 14]⟩, ⟨2, [1, 3, 4, 6], [1]⟩, ⟨4, [1, 3, 4, 6, 7, 8], [1, 34]⟩, ⟨6, [1, 3, 4, 6, 7, 8, 9], [1, 34]⟩], [], [], [], [], [], []⟩),
  (156, ⟨[4, 18], [], [⟨0, [0, 1, 5], []⟩], [], [], [], [], [], []⟩),
  (157, ⟨[3], [], [], [], [], [], [], [], []⟩),
  (158, ⟨[3], [], [], [], [], [], [], [], []⟩),
  (159, ⟨[], [], [⟨0, [0, 3], []⟩], [], [], [], [], [], []⟩),
  (160, ⟨[4, 8, 12], [], [], [], [], [], [], [], []⟩),
  (161, ⟨[2], [], [], [], [], [], [], [], []⟩),
  (162, ⟨[4, 18], [], [], [], [], [], [], [], []⟩),
  (163, ⟨[2], [], [], [], [], [], [], [], []⟩),
  (164, ⟨[3, 16, 36, 42, 43, 57, 63, 72], [], [], [], [], [], [], [], []⟩),
  (166, ⟨[2], [], [], [], [], [], [], [], []⟩),
  (167, ⟨[3, 4, 17, 25], [], [⟨0, [1, 2, 4, 11, 12, 13], [1, 2]⟩], [], [], [], [], [], []⟩),
  (170, ⟨[], [], [⟨0, [0, 3], []⟩], [], [], [], [], [], []⟩),
  (171, ⟨[6, 33], [], [⟨0, [0, 1, 2, 7, 8], []⟩], [], [], [], [], [], []⟩),
  (172, ⟨[4, 17], [], [⟨0, [0, 1, 7, 8], []⟩], [], [], [], [], [], []⟩),
  (173, ⟨[], [], [⟨0, [0, 3], []⟩], [], [], [], [], [], []⟩),
  (175, ⟨[4, 5, 16, 25, 28], [], [⟨0, [0, 1, 5, 6], []⟩], [], [], [], [], [], []⟩),
  (176, ⟨[4, 5], [], [], [], [], [], [], [], []⟩),
  (177, ⟨[2], [], [⟨0, [0, 3], []⟩], [], [], [], [], [], []⟩),
  (178, ⟨[2], [], [⟨0, [0, 3], []⟩], [], [], [], [], [], []⟩),
  (179, ⟨[4, 17], [], [⟨0, [0, 1, 7, 8], []⟩], [], [], [], [], [], []⟩),
  (180, ⟨[], [], [⟨0, [0, 3], []⟩], [], [], [], [], [], []⟩),
  (181, ⟨[2], [], [], [], [], [], [], [], []⟩),
  (182, ⟨[19], [], [⟨0, [2, 3, 12, 13, 14], [1, 2, 3]⟩], [], [], [], [], [], []⟩),
  (183, ⟨[8, 50], [], [⟨0, [1, 2, 3, 4, 9, 10], [4]⟩], [], [], [], [], [], []⟩),
  (184, ⟨[4, 26], [], [⟨0, [0, 1, 5], []⟩], [], [], [], [], [], []⟩),
  (185, ⟨[4, 26], [], [⟨0, [1, 2, 5], [2]⟩], [], [], [], [], [], []⟩),
  (186, ⟨[2], [], [⟨0, [1, 3, 4], [1]⟩], [], [], [], [], [], []⟩),
  (187, ⟨[2], [], [⟨0, [1, 3], [1]⟩], [], [], [], [], [], []⟩),
  (189, ⟨[], [3], [⟨0, [2, 3, 4], [1, 2, 3, 217]⟩], [], [], [6], [], [], []⟩),
  (190, ⟨[3, 4, 7, 52, 56, 67, 86, 91, 97], [], [⟨0, [1, 2, 4, 5, 6], [1, 2, 5]⟩, ⟨2, [1, 2, 4, 5, 6, 7, 8], [1, 2, 5]⟩], [], [(20, [0, 2, 3, 4, 5, 6, 7, 8, 9, 10, 11, 12, 13, 1, 14, 15, 16, 17, 18, 19])], [], [], [], []⟩),
  (191, ⟨[5, 7, 10, 80, 84, 95, 107, 112, 118], [], [⟨0, [2, 3, 4, 7, 8, 9], [2, 3, 4, 6, 8]⟩, ⟨2, [2, 3, 4, 7, 8, 9, 10, 11], [2, 3, 4, 6, 8]⟩], [], [(23, [0, 2, 3, 4, 5, 6, 7, 1, 8, 9, 10, 11, 12])], [], [], [], []⟩),
  (192, ⟨[7, 10, 14, 88, 92, 125, 131, 136, 142], [], [⟨0, [2, 3, 4, 6, 8, 9, 10, 11], [3, 4, 6, 9]⟩, ⟨2, [2, 3, 4, 6, 8, 9, 10, 11, 12, 13, 14, 15], [3, 4, 6, 9]⟩], [], [], [], [], [], []⟩),
  (193, ⟨[2, 22], [7], [⟨0, [0, 3, 4], [7]⟩], [], [], [], [], [], []⟩),
  (194, ⟨[4], [], [⟨0, [1, 5, 36, 37, 38], [2]⟩], [], [], [], [], [], []⟩),
  (195, ⟨[39, 47], [26], [⟨0, [0, 2, 4, 5, 16, 17], [2, 5]⟩], [], [], [], [], [], []⟩),
  (196, ⟨[5, 20], [], [], [], [], [], [], [], []⟩),
  (197, ⟨[7, 28], [], [], [], [], [], [], [], []⟩),
  (198, ⟨[3, 11], [], [], [], [], [], [], [], []⟩),
  (199, ⟨[21], [], [⟨0, [2, 3, 14, 15, 16], [1, 2, 3]⟩], [], [], [], [], [], []⟩),
  (201, ⟨[], [], [⟨0, [0, 1, 5], []⟩], [], [], [], [], [], []⟩),
  (202, ⟨[4, 8, 9], [], [], [], [], [], [], [], []⟩),
  (204, ⟨[6, 34, 39, 44, 53], [], [⟨0, [0, 2, 3, 4, 5], [2, 3]⟩, ⟨2, [0, 2, 3, 4, 5, 6, 7], [2, 3]⟩], [], [], [], [], [], []⟩),
  (205, ⟨[], [], [], [], [], [8], [], [], []⟩),
  (206, ⟨[6, 29], [], [⟨0, [1, 2, 3, 7, 8], [3]⟩], [], [], [], [7], [], []⟩),
  (207, ⟨[], [], [⟨0, [1, 2, 5], [2]⟩], [], [], [], [], [], []⟩),
  (208, ⟨[4, 6, 33, 39, 43], [], [⟨0, [0, 1, 5], []⟩], [], [], [], [4], [], []⟩),
  (209, ⟨[4, 40], [], [⟨0, [0, 3, 5], [3]⟩], [], [], [], [], [], []⟩),
  (213, ⟨[9, 11, 15, 43, 56, 65, 71, 82, 88], [], [⟨0, [1, 2, 3, 8, 11, 12, 13, 14], [4, 8, 13, 22]⟩, ⟨2, [1, 2, 3, 8, 11, 12, 13, 14, 15, 33], [4, 8, 13, 22]⟩], [77], [(21, [0, 2, 3, 4, 5, 6, 7, 1, 8, 9, 10, 11])], [], [], [77], []⟩),
  (214, ⟨[3], [], [], [], [], [], [], [], []⟩),
  (215, ⟨[], [], [⟨0, [1, 8, 9, 10], [2]⟩], [], [], [], [], [], []⟩),
  (216, ⟨[], [], [], [24], [], [], [], [24], []⟩),
  (217, ⟨[6, 31], [], [⟨0, [1, 2, 7, 11, 12, 13], [3]⟩], [], [], [], [], [], []⟩),
  (219, ⟨[9, 11, 15, 43, 56, 65, 71, 82, 88], [], [⟨0, [1, 2, 3, 8, 11, 12, 13, 14], [4, 8, 13, 22]⟩, ⟨2, [1, 2, 3, 8, 11, 12, 13, 14, 15, 33], [4, 8, 13, 22]⟩], [77], [(21, [0, 2, 3, 4, 5, 6, 7, 1, 8, 9, 10, 11])], [], [], [77], []⟩),
  (220, ⟨[5], [], [], [], [], [], [], [], []⟩),
  (221, ⟨[], [], [], [], [], [], [], [], [25]⟩),
  (222, ⟨[3], [], [], [], [], [], [], [], []⟩),
  (224, ⟨[], [], [⟨0, [0, 1, 5], []⟩], [], [], [], [], [], []⟩)]
noncomputable def EE : Env := { P := Try.prog, H := fun f => ((hints.find? (·.1 == f)).map (·.2)).getD ⟨[], [], [], [], [], [], [], [], []⟩, orc := fun g vs => if g = 75 then idxO vs else none }
theorem EP : EE.P = Try.prog := rfl
theorem o75 (s : ByteArray) (c : Int) : EE.orc 75 [.str s, .int .u8 c] = some (.int .i64 (idxB s c)) := by kernel_rfl
theorem h3 : EE.H 3 = ⟨[], [], [], [], [], [], [], [], []⟩ := by kernel_rfl
theorem o3 (vs : List V) : EE.orc 3 vs = none := by kernel_rfl
theorem h4 : EE.H 4 = ⟨[], [], [], [], [], [], [], [], []⟩ := by kernel_rfl
theorem o4 (vs : List V) : EE.orc 4 vs = none := by kernel_rfl
theorem h5 : EE.H 5 = ⟨[25, 37, 92], [], [], [], [], [], [], [], []⟩ := by kernel_rfl
theorem o5 (vs : List V) : EE.orc 5 vs = none := by kernel_rfl
theorem h6 : EE.H 6 = ⟨[24, 33, 80], [], [], [], [], [], [], [], []⟩ := by kernel_rfl
theorem o6 (vs : List V) : EE.orc 6 vs = none := by kernel_rfl
theorem h7 : EE.H 7 = ⟨[24, 33, 80], [], [], [], [], [], [], [], []⟩ := by kernel_rfl
theorem o7 (vs : List V) : EE.orc 7 vs = none := by kernel_rfl
theorem h8 : EE.H 8 = ⟨[26, 36, 84], [], [], [], [], [], [], [], []⟩ := by kernel_rfl
theorem o8 (vs : List V) : EE.orc 8 vs = none := by kernel_rfl
theorem h9 : EE.H 9 = ⟨[4, 11], [], [], [], [], [], [], [], []⟩ := by kernel_rfl
theorem o9 (vs : List V) : EE.orc 9 vs = none := by kernel_rfl
theorem h10 : EE.H 10 = ⟨[2], [], [⟨0, [1, 3], [1]⟩], [], [], [], [], [], []⟩ := by kernel_rfl
theorem o10 (vs : List V) : EE.orc 10 vs = none := by kernel_rfl
theorem h11 : EE.H 11 = ⟨[], [], [], [], [], [], [], [], []⟩ := by kernel_rfl
theorem o11 (vs : List V) : EE.orc 11 vs = none := by kernel_rfl
theorem h12 : EE.H 12 = ⟨[2], [], [], [], [], [], [], [], []⟩ := by kernel_rfl
theorem o12 (vs : List V) : EE.orc 12 vs = none := by kernel_rfl
theorem h13 : EE.H 13 = ⟨[], [], [], [], [], [], [], [], []⟩ := by kernel_rfl
theorem o13 (vs : List V) : EE.orc 13 vs = none := by kernel_rfl
theorem h14 : EE.H 14 = ⟨[4, 23], [], [], [], [], [], [], [], []⟩ := by kernel_rfl
theorem o14 (vs : List V) : EE.orc 14 vs = none := by kernel_rfl
theorem h15 : EE.H 15 = ⟨[4, 25], [], [], [], [], [], [], [], []⟩ := by kernel_rfl
theorem o15 (vs : List V) : EE.orc 15 vs = none := by kernel_rfl
theorem h16 : EE.H 16 = ⟨[4, 5, 16, 47, 89, 104], [], [⟨0, [2, 3, 5, 6, 7], [2, 3]⟩, ⟨2, [2, 3, 5, 6, 7, 8, 9, 10], [2, 3]⟩], [], [], [], [], [], []⟩ := by kernel_rfl
theorem o16 (vs : List V) : EE.orc 16 vs = none := by kernel_rfl
theorem h17 : EE.H 17 = ⟨[], [], [], [], [], [], [], [], []⟩ := by kernel_rfl
theorem o17 (vs : List V) : EE.orc 17 vs = none := by kernel_rfl
theorem h18 : EE.H 18 = ⟨[], [], [], [], [], [], [], [], []⟩ := by kernel_rfl
theorem o18 (vs : List V) : EE.orc 18 vs = none := by kernel_rfl
theorem h19 : EE.H 19 = ⟨[4, 122], [], [⟨0, [3, 5, 7, 8, 54, 55, 56], [2, 3, 5, 7, 8]⟩, ⟨2, [3, 5, 7, 8, 11, 13, 14, 54, 55, 56, 99, 100], [2, 3, 5, 7, 8, 10, 11, 12]⟩], [], [], [], [], [], []⟩ := by kernel_rfl
theorem o19 (vs : List V) : EE.orc 19 vs = none := by kernel_rfl
theorem h20 : EE.H 20 = ⟨[], [], [⟨0, [0, 1, 5], []⟩], [], [], [], [], [], []⟩ := by kernel_rfl
theorem o20 (vs : List V) : EE.orc 20 vs = none := by kernel_rfl
theorem h21 : EE.H 21 = ⟨[], [], [], [], [], [], [], [], []⟩ := by kernel_rfl
theorem o21 (vs : List V) : EE.orc 21 vs = none := by kernel_rfl
theorem h22 : EE.H 22 = ⟨[], [], [], [], [], [], [], [], []⟩ := by kernel_rfl
theorem o22 (vs : List V) : EE.orc 22 vs = none := by kernel_rfl
theorem h23 : EE.H 23 = ⟨[4, 13], [], [], [], [], [], [], [], []⟩ := by kernel_rfl
theorem o23 (vs : List V) : EE.orc 23 vs = none := by kernel_rfl
theorem h24 : EE.H 24 = ⟨[4, 9], [], [], [], [], [], [], [], []⟩ := by kernel_rfl
theorem o24 (vs : List V) : EE.orc 24 vs = none := by kernel_rfl
theorem h25 : EE.H 25 = ⟨[4, 56], [], [⟨0, [0, 1, 5], []⟩], [], [], [], [], [], []⟩ := by kernel_rfl
theorem o25 (vs : List V) : EE.orc 25 vs = none := by kernel_rfl
theorem h26 : EE.H 26 = ⟨[4, 66], [], [⟨0, [0, 1, 5], []⟩], [], [], [], [], [], []⟩ := by kernel_rfl
theorem o26 (vs : List V) : EE.orc 26 vs = none := by kernel_rfl
theorem h27 : EE.H 27 = ⟨[4, 11], [], [], [], [], [], [], [], []⟩ := by kernel_rfl
theorem o27 (vs : List V) : EE.orc 27 vs = none := by kernel_rfl
theorem h28 : EE.H 28 = ⟨[47], [], [⟨0, [1, 2, 4, 6, 7], [2, 4, 6]⟩], [], [], [], [], [], []⟩ := by kernel_rfl
theorem o28 (vs : List V) : EE.orc 28 vs = none := by kernel_rfl
theorem h29 : EE.H 29 = ⟨[], [], [], [], [], [], [], [], []⟩ := by kernel_rfl
theorem o29 (vs : List V) : EE.orc 29 vs = none := by kernel_rfl
theorem h30 : EE.H 30 = ⟨[2, 21], [7], [⟨0, [0, 3, 4], [7]⟩], [], [], [], [], [], []⟩ := by kernel_rfl
theorem o30 (vs : List V) : EE.orc 30 vs = none := by kernel_rfl
theorem h31 : EE.H 31 = ⟨[], [], [⟨0, [1, 2, 4, 6, 13, 14, 15], [2, 4]⟩], [], [], [], [], [], []⟩ := by kernel_rfl
theorem o31 (vs : List V) : EE.orc 31 vs = none := by kernel_rfl
theorem h32 : EE.H 32 = ⟨[], [], [], [], [], [], [], [], []⟩ := by kernel_rfl
theorem o32 (vs : List V) : EE.orc 32 vs = none := by kernel_rfl
theorem h33 : EE.H 33 = ⟨[], [], [⟨0, [0, 1, 5], []⟩], [], [], [], [], [], []⟩ := by kernel_rfl
theorem o33 (vs : List V) : EE.orc 33 vs = none := by kernel_rfl
theorem h34 : EE.H 34 = ⟨[4, 9], [], [], [], [], [], [], [], []⟩ := by kernel_rfl
theorem o34 (vs : List V) : EE.orc 34 vs = none := by kernel_rfl
theorem h35 : EE.H 35 = ⟨[4, 18], [], [⟨0, [0, 1, 5], []⟩], [], [], [], [], [], []⟩ := by kernel_rfl
theorem o35 (vs : List V) : EE.orc 35 vs = none := by kernel_rfl
theorem h36 : EE.H 36 = ⟨[4, 11], [], [], [], [], [], [], [], []⟩ := by kernel_rfl
theorem o36 (vs : List V) : EE.orc 36 vs = none := by kernel_rfl
theorem h37 : EE.H 37 = ⟨[4, 17], [], [], [], [], [], [], [], []⟩ := by kernel_rfl
theorem o37 (vs : List V) : EE.orc 37 vs = none := by kernel_rfl
theorem h38 : EE.H 38 = ⟨[28], [], [⟨0, [1, 2, 4, 6, 7], [2, 4, 6]⟩], [], [], [], [], [], []⟩ := by kernel_rfl
theorem o38 (vs : List V) : EE.orc 38 vs = none := by kernel_rfl
theorem h39 : EE.H 39 = ⟨[], [], [], [], [], [], [], [], []⟩ := by kernel_rfl
theorem o39 (vs : List V) : EE.orc 39 vs = none := by kernel_rfl
theorem h40 : EE.H 40 = ⟨[27], [], [⟨0, [1, 2, 4, 6, 22, 23], [2, 4, 6]⟩], [], [], [], [], [], []⟩ := by kernel_rfl
theorem o40 (vs : List V) : EE.orc 40 vs = none := by kernel_rfl
theorem h41 : EE.H 41 = ⟨[], [], [], [], [], [], [], [], []⟩ := by kernel_rfl
theorem o41 (vs : List V) : EE.orc 41 vs = none := by kernel_rfl
theorem h42 : EE.H 42 = ⟨[4, 13], [], [], [], [], [], [], [], []⟩ := by kernel_rfl
theorem o42 (vs : List V) : EE.orc 42 vs = none := by kernel_rfl
theorem h43 : EE.H 43 = ⟨[4, 17], [], [], [], [], [], [], [], []⟩ := by kernel_rfl
theorem o43 (vs : List V) : EE.orc 43 vs = none := by kernel_rfl
theorem h44 : EE.H 44 = ⟨[8], [], [], [], [], [], [], [], []⟩ := by kernel_rfl
theorem o44 (vs : List V) : EE.orc 44 vs = none := by kernel_rfl
theorem h45 : EE.H 45 = ⟨[], [], [], [], [], [], [], [], []⟩ := by kernel_rfl
theorem o45 (vs : List V) : EE.orc 45 vs = none := by kernel_rfl
theorem h46 : EE.H 46 = ⟨[4, 26], [], [], [], [], [], [], [], []⟩ := by kernel_rfl
theorem o46 (vs : List V) : EE.orc 46 vs = none := by kernel_rfl
theorem h47 : EE.H 47 = ⟨[33], [], [⟨0, [2, 3, 4, 6, 7], [2, 3, 4, 6]⟩, ⟨2, [2, 3, 4, 6, 7, 8], [2, 3, 4, 6]⟩], [], [], [], [], [], []⟩ := by kernel_rfl
theorem o47 (vs : List V) : EE.orc 47 vs = none := by kernel_rfl
theorem h48 : EE.H 48 = ⟨[], [], [], [], [], [], [], [], []⟩ := by kernel_rfl
theorem o48 (vs : List V) : EE.orc 48 vs = none := by kernel_rfl
theorem h49 : EE.H 49 = ⟨[27], [], [⟨0, [2, 3, 4, 6, 22, 23], [2, 3, 4, 6]⟩], [], [], [], [], [], []⟩ := by kernel_rfl
theorem o49 (vs : List V) : EE.orc 49 vs = none := by kernel_rfl
theorem h50 : EE.H 50 = ⟨[4, 26], [], [⟨0, [0, 1, 5], []⟩], [], [], [], [], [], []⟩ := by kernel_rfl
theorem o50 (vs : List V) : EE.orc 50 vs = none := by kernel_rfl
theorem h51 : EE.H 51 = ⟨[2, 49], [], [], [], [], [], [], [], []⟩ := by kernel_rfl
theorem o51 (vs : List V) : EE.orc 51 vs = none := by kernel_rfl
theorem h52 : EE.H 52 = ⟨[2, 22], [7], [⟨0, [0, 3, 4], [7]⟩], [], [], [], [], [], []⟩ := by kernel_rfl
theorem o52 (vs : List V) : EE.orc 52 vs = none := by kernel_rfl
theorem h53 : EE.H 53 = ⟨[4], [], [], [], [], [], [], [], []⟩ := by kernel_rfl
theorem o53 (vs : List V) : EE.orc 53 vs = none := by kernel_rfl
theorem h54 : EE.H 54 = ⟨[2], [], [], [], [], [], [], [], []⟩ := by kernel_rfl
theorem o54 (vs : List V) : EE.orc 54 vs = none := by kernel_rfl
theorem h55 : EE.H 55 = ⟨[2, 41], [], [], [], [], [], [], [], []⟩ := by kernel_rfl
theorem o55 (vs : List V) : EE.orc 55 vs = none := by kernel_rfl
theorem h56 : EE.H 56 = ⟨[], [], [⟨0, [0, 1, 5], []⟩], [], [], [], [], [], []⟩ := by kernel_rfl
theorem o56 (vs : List V) : EE.orc 56 vs = none := by kernel_rfl
theorem h57 : EE.H 57 = ⟨[4, 19], [], [], [], [], [], [], [], []⟩ := by kernel_rfl
theorem o57 (vs : List V) : EE.orc 57 vs = none := by kernel_rfl
theorem h58 : EE.H 58 = ⟨[4, 23], [], [], [], [], [], [], [], []⟩ := by kernel_rfl
theorem o58 (vs : List V) : EE.orc 58 vs = none := by kernel_rfl
theorem h59 : EE.H 59 = ⟨[4, 26], [], [⟨0, [0, 1, 5], []⟩], [], [], [], [], [], []⟩ := by kernel_rfl
theorem o59 (vs : List V) : EE.orc 59 vs = none := by kernel_rfl
theorem h60 : EE.H 60 = ⟨[4, 11], [], [], [], [], [], [], [], []⟩ := by kernel_rfl
theorem o60 (vs : List V) : EE.orc 60 vs = none := by kernel_rfl
theorem h61 : EE.H 61 = ⟨[], [], [⟨0, [5, 6], [2, 3]⟩], [], [], [], [], [], []⟩ := by kernel_rfl
theorem o61 (vs : List V) : EE.orc 61 vs = none := by kernel_rfl
theorem h62 : EE.H 62 = ⟨[2], [], [], [], [], [], [], [], []⟩ := by kernel_rfl
theorem o62 (vs : List V) : EE.orc 62 vs = none := by kernel_rfl
theorem h63 : EE.H 63 = ⟨[2], [], [], [], [], [], [], [], []⟩ := by kernel_rfl
theorem o63 (vs : List V) : EE.orc 63 vs = none := by kernel_rfl
theorem h64 : EE.H 64 = ⟨[], [8], [], [], [], [23], [], [], []⟩ := by kernel_rfl
theorem o64 (vs : List V) : EE.orc 64 vs = none := by kernel_rfl
theorem h65 : EE.H 65 = ⟨[6], [], [], [], [], [], [], [], []⟩ := by kernel_rfl
theorem o65 (vs : List V) : EE.orc 65 vs = none := by kernel_rfl
theorem h66 : EE.H 66 = ⟨[], [], [], [], [], [], [], [], []⟩ := by kernel_rfl
theorem o66 (vs : List V) : EE.orc 66 vs = none := by kernel_rfl
theorem h67 : EE.H 67 = ⟨[], [], [], [], [], [], [], [], []⟩ := by kernel_rfl
theorem o67 (vs : List V) : EE.orc 67 vs = none := by kernel_rfl
theorem h68 : EE.H 68 = ⟨[2, 22], [7], [⟨0, [0, 3, 4], [7]⟩], [], [], [], [], [], []⟩ := by kernel_rfl
theorem o68 (vs : List V) : EE.orc 68 vs = none := by kernel_rfl
theorem h69 : EE.H 69 = ⟨[3], [], [], [], [], [], [], [], []⟩ := by kernel_rfl
theorem o69 (vs : List V) : EE.orc 69 vs = none := by kernel_rfl
theorem h70 : EE.H 70 = ⟨[6], [], [], [], [], [], [], [], []⟩ := by kernel_rfl
theorem o70 (vs : List V) : EE.orc 70 vs = none := by kernel_rfl
theorem h71 : EE.H 71 = ⟨[2], [], [], [], [], [], [], [], []⟩ := by kernel_rfl
theorem o71 (vs : List V) : EE.orc 71 vs = none := by kernel_rfl
theorem h72 : EE.H 72 = ⟨[4], [], [], [], [], [], [], [], []⟩ := by kernel_rfl
theorem o72 (vs : List V) : EE.orc 72 vs = none := by kernel_rfl
theorem h73 : EE.H 73 = ⟨[], [], [⟨0, [0, 3], []⟩], [], [], [], [], [], []⟩ := by kernel_rfl
theorem o73 (vs : List V) : EE.orc 73 vs = none := by kernel_rfl
theorem h74 : EE.H 74 = ⟨[2, 5, 59, 74, 87], [], [⟨0, [5, 49, 50, 51], [1]⟩], [], [], [], [], [], []⟩ := by kernel_rfl
theorem o74 (vs : List V) : EE.orc 74 vs = none := by kernel_rfl
theorem h75 : EE.H 75 = ⟨[4], [], [], [], [], [], [], [], []⟩ := by kernel_rfl
theorem h76 : EE.H 76 = ⟨[], [], [], [], [], [], [], [], []⟩ := by kernel_rfl
theorem o76 (vs : List V) : EE.orc 76 vs = none := by kernel_rfl
theorem h77 : EE.H 77 = ⟨[7, 15], [7], [], [], [], [10], [21], [], []⟩ := by kernel_rfl
theorem o77 (vs : List V) : EE.orc 77 vs = none := by kernel_rfl
theorem h78 : EE.H 78 = ⟨[2], [], [], [], [], [7], [], [], []⟩ := by kernel_rfl
theorem o78 (vs : List V) : EE.orc 78 vs = none := by kernel_rfl
theorem h79 : EE.H 79 = ⟨[2], [], [], [], [], [], [], [], []⟩ := by kernel_rfl
theorem o79 (vs : List V) : EE.orc 79 vs = none := by kernel_rfl
theorem h80 : EE.H 80 = ⟨[], [], [], [], [], [], [], [], []⟩ := by kernel_rfl
theorem o80 (vs : List V) : EE.orc 80 vs = none := by kernel_rfl
theorem h81 : EE.H 81 = ⟨[], [], [], [], [], [], [], [], []⟩ := by kernel_rfl
theorem o81 (vs : List V) : EE.orc 81 vs = none := by kernel_rfl
theorem h82 : EE.H 82 = ⟨[], [], [], [], [], [], [], [], []⟩ := by kernel_rfl
theorem o82 (vs : List V) : EE.orc 82 vs = none := by kernel_rfl
theorem h83 : EE.H 83 = ⟨[], [], [⟨0, [0, 1, 5], []⟩], [], [], [], [], [], []⟩ := by kernel_rfl
theorem o83 (vs : List V) : EE.orc 83 vs = none := by kernel_rfl
theorem h84 : EE.H 84 = ⟨[4, 17], [], [], [], [], [], [], [], []⟩ := by kernel_rfl
theorem o84 (vs : List V) : EE.orc 84 vs = none := by kernel_rfl
theorem h85 : EE.H 85 = ⟨[4, 18], [], [⟨0, [0, 1, 5], []⟩], [], [], [], [], [], []⟩ := by kernel_rfl
theorem o85 (vs : List V) : EE.orc 85 vs = none := by kernel_rfl
theorem h86 : EE.H 86 = ⟨[2], [], [⟨0, [0, 3], []⟩], [], [], [], [], [], []⟩ := by kernel_rfl
theorem o86 (vs : List V) : EE.orc 86 vs = none := by kernel_rfl
theorem h87 : EE.H 87 = ⟨[4, 20], [], [⟨0, [0, 1, 5], []⟩], [], [], [], [], [], []⟩ := by kernel_rfl
theorem o87 (vs : List V) : EE.orc 87 vs = none := by kernel_rfl
theorem h88 : EE.H 88 = ⟨[4, 26], [], [⟨0, [0, 1, 5], []⟩], [], [], [], [], [], []⟩ := by kernel_rfl
theorem o88 (vs : List V) : EE.orc 88 vs = none := by kernel_rfl
theorem h89 : EE.H 89 = ⟨[2], [], [⟨0, [1, 3], [1]⟩], [], [], [], [], [], []⟩ := by kernel_rfl
theorem o89 (vs : List V) : EE.orc 89 vs = none := by kernel_rfl
theorem h90 : EE.H 90 = ⟨[6], [], [], [], [], [], [], [], []⟩ := by kernel_rfl
theorem o90 (vs : List V) : EE.orc 90 vs = none := by kernel_rfl
theorem h91 : EE.H 91 = ⟨[], [], [], [], [], [], [], [], []⟩ := by kernel_rfl
theorem o91 (vs : List V) : EE.orc 91 vs = none := by kernel_rfl
theorem h92 : EE.H 92 = ⟨[2, 22], [7], [⟨0, [0, 3, 4], [7]⟩], [], [], [], [], [], []⟩ := by kernel_rfl
theorem o92 (vs : List V) : EE.orc 92 vs = none := by kernel_rfl
theorem h93 : EE.H 93 = ⟨[2], [], [], [], [], [], [], [], []⟩ := by kernel_rfl
theorem o93 (vs : List V) : EE.orc 93 vs = none := by kernel_rfl
theorem h94 : EE.H 94 = ⟨[16], [], [⟨0, [2, 4, 5, 9, 10, 11], [2, 4, 5]⟩], [], [], [], [], [], []⟩ := by kernel_rfl
theorem o94 (vs : List V) : EE.orc 94 vs = none := by kernel_rfl
theorem h95 : EE.H 95 = ⟨[], [], [⟨0, [0, 1, 5], []⟩], [], [], [], [], [], []⟩ := by kernel_rfl
theorem o95 (vs : List V) : EE.orc 95 vs = none := by kernel_rfl
theorem h96 : EE.H 96 = ⟨[4, 74], [], [⟨0, [0, 1, 5], []⟩], [], [], [], [], [], []⟩ := by kernel_rfl
theorem o96 (vs : List V) : EE.orc 96 vs = none := by kernel_rfl
theorem h97 : EE.H 97 = ⟨[4, 90], [], [⟨0, [0, 1, 5], []⟩], [], [], [], [], [], []⟩ := by kernel_rfl
theorem o97 (vs : List V) : EE.orc 97 vs = none := by kernel_rfl
theorem h98 : EE.H 98 = ⟨[4, 11], [], [], [], [], [], [], [], []⟩ := by kernel_rfl
theorem o98 (vs : List V) : EE.orc 98 vs = none := by kernel_rfl
theorem h99 : EE.H 99 = ⟨[], [], [⟨0, [1, 3, 4], [1]⟩, ⟨2, [1, 3, 4, 5], [1]⟩], [], [], [], [], [], []⟩ := by kernel_rfl
theorem o99 (vs : List V) : EE.orc 99 vs = none := by kernel_rfl
theorem h100 : EE.H 100 = ⟨[2], [], [⟨0, [0, 3], []⟩], [], [], [], [], [], []⟩ := by kernel_rfl
theorem o100 (vs : List V) : EE.orc 100 vs = none := by kernel_rfl
theorem h101 : EE.H 101 = ⟨[18], [], [⟨0, [1, 2, 3, 4], [1, 2, 3]⟩], [], [], [], [], [], []⟩ := by kernel_rfl
theorem o101 (vs : List V) : EE.orc 101 vs = none := by kernel_rfl
theorem h102 : EE.H 102 = ⟨[6, 45], [], [⟨0, [2, 3, 8, 9], [3]⟩], [], [], [], [], [], []⟩ := by kernel_rfl
theorem o102 (vs : List V) : EE.orc 102 vs = none := by kernel_rfl
theorem h103 : EE.H 103 = ⟨[4, 7, 46, 50, 57, 70, 75], [], [⟨0, [1, 2, 3, 4, 5, 6], [1, 2, 5]⟩, ⟨2, [1, 2, 3, 4, 5, 6, 7, 8], [1, 2, 5]⟩], [], [(15, [0, 2, 3, 4, 5, 6, 7, 8, 9, 10, 1, 11, 12, 13])], [67], [], [], []⟩ := by kernel_rfl
theorem o103 (vs : List V) : EE.orc 103 vs = none := by kernel_rfl
theorem h104 : EE.H 104 = ⟨[2, 21], [7], [⟨0, [0, 3, 4], [7]⟩], [], [], [], [], [], []⟩ := by kernel_rfl
theorem o104 (vs : List V) : EE.orc 104 vs = none := by kernel_rfl
theorem h105 : EE.H 105 = ⟨[2], [], [], [], [], [], [], [], []⟩ := by kernel_rfl
theorem o105 (vs : List V) : EE.orc 105 vs = none := by kernel_rfl
theorem h106 : EE.H 106 = ⟨[2], [], [], [], [], [], [], [], []⟩ := by kernel_rfl
theorem o106 (vs : List V) : EE.orc 106 vs = none := by kernel_rfl
theorem h107 : EE.H 107 = ⟨[6, 25], [], [⟨0, [1, 2, 3, 7], [3]⟩], [], [], [], [], [], []⟩ := by kernel_rfl
theorem o107 (vs : List V) : EE.orc 107 vs = none := by kernel_rfl
theorem h108 : EE.H 108 = ⟨[5, 27, 33, 60, 72, 133, 167, 185, 210, 223, 236], [79, 99], [⟨0, [2, 4, 5, 6, 7], [2, 4, 38]⟩, ⟨2, [2, 4, 5, 6, 7, 54, 55, 56], [2, 4, 38]⟩, ⟨4, [2, 4, 5, 6, 12, 80, 81, 82], [2, 4, 38, 79]⟩, ⟨6, [2, 4, 5, 6, 12, 15], [2, 4, 38]⟩, ⟨8, [2, 4, 5, 6, 12, 15, 16, 17, 100, 101, 102], [2, 4, 38, 96, 99]⟩, ⟨10, [2, 4, 5, 6, 12, 15, 16, 17, 18, 20, 100, 101, 102, 116, 117, 118], [2, 4, 20, 38, 96, 99]⟩, ⟨12, [2, 4, 5, 6, 12, 25, 26, 27, 163, 164], [2, 4, 25, 38, 160]⟩, ⟨14, [2, 4, 5, 6, 12, 25, 26, 190, 191, 192], [2, 4, 25, 38, 160]⟩, ⟨16, [2, 4, 5, 6, 12, 25, 26, 32, 33, 190, 191, 192, 204, 205, 206], [2, 4, 25, 38, 160]⟩], [], [(61, [0, 2, 3, 4, 5, 6, 7, 8, 9, 10, 1, 11, 12, 13])], [], [], [], []⟩ := by kernel_rfl
theorem o108 (vs : List V) : EE.orc 108 vs = none := by kernel_rfl
theorem h109 : EE.H 109 = ⟨[], [], [⟨0, [0, 1, 5], []⟩], [], [], [], [], [], []⟩ := by kernel_rfl
theorem o109 (vs : List V) : EE.orc 109 vs = none := by kernel_rfl
theorem h110 : EE.H 110 = ⟨[4, 20], [], [⟨0, [0, 1, 5], []⟩], [], [], [], [], [], []⟩ := by kernel_rfl
theorem o110 (vs : List V) : EE.orc 110 vs = none := by kernel_rfl
theorem h111 : EE.H 111 = ⟨[4, 22], [], [⟨0, [0, 1, 5], []⟩], [], [], [], [], [], []⟩ := by kernel_rfl
theorem o111 (vs : List V) : EE.orc 111 vs = none := by kernel_rfl
theorem h112 : EE.H 112 = ⟨[4, 20], [], [⟨0, [0, 1, 5], []⟩], [], [], [], [], [], []⟩ := by kernel_rfl
theorem o112 (vs : List V) : EE.orc 112 vs = none := by kernel_rfl
theorem h113 : EE.H 113 = ⟨[7, 22, 38, 50], [], [⟨0, [1, 2, 4, 5, 6], [2, 4, 5]⟩, ⟨2, [1, 2, 4, 5, 6, 7, 8], [2, 4, 5]⟩], [], [], [], [], [], []⟩ := by kernel_rfl
theorem o113 (vs : List V) : EE.orc 113 vs = none := by kernel_rfl
theorem h114 : EE.H 114 = ⟨[2], [], [], [], [], [], [], [], []⟩ := by kernel_rfl
theorem o114 (vs : List V) : EE.orc 114 vs = none := by kernel_rfl
theorem h115 : EE.H 115 = ⟨[4, 44], [], [⟨0, [1, 2, 5, 6], [2]⟩], [], [], [], [], [], []⟩ := by kernel_rfl
theorem o115 (vs : List V) : EE.orc 115 vs = none := by kernel_rfl
theorem h116 : EE.H 116 = ⟨[], [], [⟨0, [11, 12, 13], [1]⟩], [], [], [], [], [], []⟩ := by kernel_rfl
theorem o116 (vs : List V) : EE.orc 116 vs = none := by kernel_rfl
theorem h117 : EE.H 117 = ⟨[4, 24], [], [], [], [], [], [], [], []⟩ := by kernel_rfl
theorem o117 (vs : List V) : EE.orc 117 vs = none := by kernel_rfl
theorem h118 : EE.H 118 = ⟨[2], [], [], [], [], [], [], [], []⟩ := by kernel_rfl
theorem o118 (vs : List V) : EE.orc 118 vs = none := by kernel_rfl
theorem h119 : EE.H 119 = ⟨[3, 10, 16], [], [], [], [], [], [], [], []⟩ := by kernel_rfl
theorem o119 (vs : List V) : EE.orc 119 vs = none := by kernel_rfl
theorem h120 : EE.H 120 = ⟨[], [], [], [], [], [], [], [], []⟩ := by kernel_rfl
theorem o120 (vs : List V) : EE.orc 120 vs = none := by kernel_rfl
theorem h121 : EE.H 121 = ⟨[4, 17], [], [⟨0, [0, 1, 7, 8], []⟩], [], [], [], [], [], []⟩ := by kernel_rfl
theorem o121 (vs : List V) : EE.orc 121 vs = none := by kernel_rfl
theorem h122 : EE.H 122 = ⟨[3], [], [], [], [], [], [], [], []⟩ := by kernel_rfl
theorem o122 (vs : List V) : EE.orc 122 vs = none := by kernel_rfl
theorem h123 : EE.H 123 = ⟨[2], [], [], [], [], [], [], [], []⟩ := by kernel_rfl
theorem o123 (vs : List V) : EE.orc 123 vs = none := by kernel_rfl
theorem h124 : EE.H 124 = ⟨[], [], [], [], [], [], [], [], []⟩ := by kernel_rfl
theorem o124 (vs : List V) : EE.orc 124 vs = none := by kernel_rfl
theorem h125 : EE.H 125 = ⟨[], [], [⟨0, [1, 3, 4], [1]⟩], [], [], [], [], [], []⟩ := by kernel_rfl
theorem o125 (vs : List V) : EE.orc 125 vs = none := by kernel_rfl
theorem h126 : EE.H 126 = ⟨[], [], [⟨0, [0, 1, 5], []⟩], [], [], [], [], [], []⟩ := by kernel_rfl
theorem o126 (vs : List V) : EE.orc 126 vs = none := by kernel_rfl
theorem h127 : EE.H 127 = ⟨[2], [], [⟨0, [0, 3], []⟩], [], [], [], [], [], []⟩ := by kernel_rfl
theorem o127 (vs : List V) : EE.orc 127 vs = none := by kernel_rfl
theorem h128 : EE.H 128 = ⟨[], [], [⟨0, [1, 2, 3], [1, 2]⟩], [], [], [], [], [], []⟩ := by kernel_rfl
theorem o128 (vs : List V) : EE.orc 128 vs = none := by kernel_rfl
theorem h129 : EE.H 129 = ⟨[2], [], [], [], [], [], [], [], []⟩ := by kernel_rfl
theorem o129 (vs : List V) : EE.orc 129 vs = none := by kernel_rfl
theorem h130 : EE.H 130 = ⟨[4, 5, 10, 11, 23, 32], [], [], [], [], [], [], [], []⟩ := by kernel_rfl
theorem o130 (vs : List V) : EE.orc 130 vs = none := by kernel_rfl
theorem h131 : EE.H 131 = ⟨[], [], [], [], [], [], [], [], []⟩ := by kernel_rfl
theorem o131 (vs : List V) : EE.orc 131 vs = none := by kernel_rfl
theorem h132 : EE.H 132 = ⟨[2], [], [], [], [], [], [], [], []⟩ := by kernel_rfl
theorem o132 (vs : List V) : EE.orc 132 vs = none := by kernel_rfl
theorem h133 : EE.H 133 = ⟨[2, 12], [], [⟨0, [0, 3], []⟩], [], [], [], [], [], []⟩ := by kernel_rfl
theorem o133 (vs : List V) : EE.orc 133 vs = none := by kernel_rfl
theorem h134 : EE.H 134 = ⟨[3], [], [], [], [], [], [], [], []⟩ := by kernel_rfl
theorem o134 (vs : List V) : EE.orc 134 vs = none := by kernel_rfl
theorem h135 : EE.H 135 = ⟨[4], [], [], [], [], [], [], [], []⟩ := by kernel_rfl
theorem o135 (vs : List V) : EE.orc 135 vs = none := by kernel_rfl
theorem h136 : EE.H 136 = ⟨[4], [], [], [], [], [], [], [], []⟩ := by kernel_rfl
theorem o136 (vs : List V) : EE.orc 136 vs = none := by kernel_rfl
theorem h137 : EE.H 137 = ⟨[4, 17], [], [⟨0, [0, 1, 7, 8], []⟩], [], [], [], [], [], []⟩ := by kernel_rfl
theorem o137 (vs : List V) : EE.orc 137 vs = none := by kernel_rfl
theorem h138 : EE.H 138 = ⟨[2], [], [], [], [], [], [], [], []⟩ := by kernel_rfl
theorem o138 (vs : List V) : EE.orc 138 vs = none := by kernel_rfl
theorem h139 : EE.H 139 = ⟨[], [], [⟨0, [1, 2], [1, 2]⟩], [], [], [], [], [], []⟩ := by kernel_rfl
theorem o139 (vs : List V) : EE.orc 139 vs = none := by kernel_rfl
theorem h140 : EE.H 140 = ⟨[2], [], [], [], [], [], [], [], []⟩ := by kernel_rfl
theorem o140 (vs : List V) : EE.orc 140 vs = none := by kernel_rfl
theorem h141 : EE.H 141 = ⟨[4], [], [], [], [], [], [], [], []⟩ := by kernel_rfl
theorem o141 (vs : List V) : EE.orc 141 vs = none := by kernel_rfl
theorem h142 : EE.H 142 = ⟨[6], [], [], [], [], [], [], [], []⟩ := by kernel_rfl
theorem o142 (vs : List V) : EE.orc 142 vs = none := by kernel_rfl
theorem h143 : EE.H 143 = ⟨[], [], [], [], [], [], [], [], []⟩ := by kernel_rfl
theorem o143 (vs : List V) : EE.orc 143 vs = none := by kernel_rfl
theorem h144 : EE.H 144 = ⟨[4, 31], [], [], [], [], [], [], [], []⟩ := by kernel_rfl
theorem o144 (vs : List V) : EE.orc 144 vs = none := by kernel_rfl
theorem h145 : EE.H 145 = ⟨[2], [], [], [], [], [], [], [], []⟩ := by kernel_rfl
theorem o145 (vs : List V) : EE.orc 145 vs = none := by kernel_rfl
theorem h146 : EE.H 146 = ⟨[18], [], [⟨0, [1, 2, 3, 4], [1, 2, 3]⟩], [], [], [], [], [], []⟩ := by kernel_rfl
theorem o146 (vs : List V) : EE.orc 146 vs = none := by kernel_rfl
theorem h147 : EE.H 147 = ⟨[], [], [], [], [], [], [], [], []⟩ := by kernel_rfl
theorem o147 (vs : List V) : EE.orc 147 vs = none := by kernel_rfl
theorem h148 : EE.H 148 = ⟨[4], [], [], [], [], [], [], [], []⟩ := by kernel_rfl
theorem o148 (vs : List V) : EE.orc 148 vs = none := by kernel_rfl
theorem h149 : EE.H 149 = ⟨[2], [], [], [], [], [], [], [], []⟩ := by kernel_rfl
theorem o149 (vs : List V) : EE.orc 149 vs = none := by kernel_rfl
theorem h150 : EE.H 150 = ⟨[2], [], [], [], [], [], [], [], []⟩ := by kernel_rfl
theorem o150 (vs : List V) : EE.orc 150 vs = none := by kernel_rfl
theorem h151 : EE.H 151 = ⟨[], [], [], [], [], [], [], [], []⟩ := by kernel_rfl
theorem o151 (vs : List V) : EE.orc 151 vs = none := by kernel_rfl
theorem h152 : EE.H 152 = ⟨[], [], [], [], [], [], [], [], []⟩ := by kernel_rfl
theorem o152 (vs : List V) : EE.orc 152 vs = none := by kernel_rfl
theorem h153 : EE.H 153 = ⟨[4, 34], [], [⟨0, [0, 1, 5], []⟩], [], [], [], [], [], []⟩ := by kernel_rfl
theorem o153 (vs : List V) : EE.orc 153 vs = none := by kernel_rfl
theorem h154 : EE.H 154 = ⟨[4, 40], [], [⟨0, [0, 1, 5], []⟩], [], [], [], [], [], []⟩ := by kernel_rfl
theorem o154 (vs : List V) : EE.orc 154 vs = none := by kernel_rfl
theorem h155 : EE.H 155 = ⟨[2, 59], [14, 34], [⟨0, [1, 3, 4, 5], [1, 14]⟩, ⟨2, [1, 3, 4, 6], [1]⟩, ⟨4, [1, 3, 4, 6, 7, 8], [1, 34]⟩, ⟨6, [1, 3, 4, 6, 7, 8, 9], [1, 34]⟩], [], [], [], [], [], []⟩ := by kernel_rfl
theorem o155 (vs : List V) : EE.orc 155 vs = none := by kernel_rfl
theorem h156 : EE.H 156 = ⟨[4, 18], [], [⟨0, [0, 1, 5], []⟩], [], [], [], [], [], []⟩ := by kernel_rfl
theorem o156 (vs : List V) : EE.orc 156 vs = none := by kernel_rfl
theorem h157 : EE.H 157 = ⟨[3], [], [], [], [], [], [], [], []⟩ := by kernel_rfl
theorem o157 (vs : List V) : EE.orc 157 vs = none := by kernel_rfl
theorem h158 : EE.H 158 = ⟨[3], [], [], [], [], [], [], [], []⟩ := by kernel_rfl
theorem o158 (vs : List V) : EE.orc 158 vs = none := by kernel_rfl
theorem h159 : EE.H 159 = ⟨[], [], [⟨0, [0, 3], []⟩], [], [], [], [], [], []⟩ := by kernel_rfl
theorem o159 (vs : List V) : EE.orc 159 vs = none := by kernel_rfl
theorem h160 : EE.H 160 = ⟨[4, 8, 12], [], [], [], [], [], [], [], []⟩ := by kernel_rfl
theorem o160 (vs : List V) : EE.orc 160 vs = none := by kernel_rfl
theorem h161 : EE.H 161 = ⟨[2], [], [], [], [], [], [], [], []⟩ := by kernel_rfl
theorem o161 (vs : List V) : EE.orc 161 vs = none := by kernel_rfl
theorem h162 : EE.H 162 = ⟨[4, 18], [], [], [], [], [], [], [], []⟩ := by kernel_rfl
theorem o162 (vs : List V) : EE.orc 162 vs = none := by kernel_rfl
theorem h163 : EE.H 163 = ⟨[2], [], [], [], [], [], [], [], []⟩ := by kernel_rfl
theorem o163 (vs : List V) : EE.orc 163 vs = none := by kernel_rfl
theorem h164 : EE.H 164 = ⟨[3, 16, 36, 42, 43, 57, 63, 72], [], [], [], [], [], [], [], []⟩ := by kernel_rfl
theorem o164 (vs : List V) : EE.orc 164 vs = none := by kernel_rfl
theorem h165 : EE.H 165 = ⟨[], [], [], [], [], [], [], [], []⟩ := by kernel_rfl
theorem o165 (vs : List V) : EE.orc 165 vs = none := by kernel_rfl
theorem h166 : EE.H 166 = ⟨[2], [], [], [], [], [], [], [], []⟩ := by kernel_rfl
theorem o166 (vs : List V) : EE.orc 166 vs = none := by kernel_rfl
theorem h167 : EE.H 167 = ⟨[3, 4, 17, 25], [], [⟨0, [1, 2, 4, 11, 12, 13], [1, 2]⟩], [], [], [], [], [], []⟩ := by kernel_rfl
theorem o167 (vs : List V) : EE.orc 167 vs = none := by kernel_rfl
theorem h168 : EE.H 168 = ⟨[], [], [], [], [], [], [], [], []⟩ := by kernel_rfl
theorem o168 (vs : List V) : EE.orc 168 vs = none := by kernel_rfl
theorem h169 : EE.H 169 = ⟨[], [], [], [], [], [], [], [], []⟩ := by kernel_rfl
theorem o169 (vs : List V) : EE.orc 169 vs = none := by kernel_rfl
theorem h170 : EE.H 170 = ⟨[], [], [⟨0, [0, 3], []⟩], [], [], [], [], [], []⟩ := by kernel_rfl
theorem o170 (vs : List V) : EE.orc 170 vs = none := by kernel_rfl
theorem h171 : EE.H 171 = ⟨[6, 33], [], [⟨0, [0, 1, 2, 7, 8], []⟩], [], [], [], [], [], []⟩ := by kernel_rfl
theorem o171 (vs : List V) : EE.orc 171 vs = none := by kernel_rfl
theorem h172 : EE.H 172 = ⟨[4, 17], [], [⟨0, [0, 1, 7, 8], []⟩], [], [], [], [], [], []⟩ := by kernel_rfl
theorem o172 (vs : List V) : EE.orc 172 vs = none := by kernel_rfl
theorem h173 : EE.H 173 = ⟨[], [], [⟨0, [0, 3], []⟩], [], [], [], [], [], []⟩ := by kernel_rfl
theorem o173 (vs : List V) : EE.orc 173 vs = none := by kernel_rfl
theorem h175 : EE.H 175 = ⟨[4, 5, 16, 25, 28], [], [⟨0, [0, 1, 5, 6], []⟩], [], [], [], [], [], []⟩ := by kernel_rfl
theorem o175 (vs : List V) : EE.orc 175 vs = none := by kernel_rfl
theorem h176 : EE.H 176 = ⟨[4, 5], [], [], [], [], [], [], [], []⟩ := by kernel_rfl
theorem o176 (vs : List V) : EE.orc 176 vs = none := by kernel_rfl
theorem h177 : EE.H 177 = ⟨[2], [], [⟨0, [0, 3], []⟩], [], [], [], [], [], []⟩ := by kernel_rfl
theorem o177 (vs : List V) : EE.orc 177 vs = none := by kernel_rfl
theorem h178 : EE.H 178 = ⟨[2], [], [⟨0, [0, 3], []⟩], [], [], [], [], [], []⟩ := by kernel_rfl
theorem o178 (vs : List V) : EE.orc 178 vs = none := by kernel_rfl
theorem h179 : EE.H 179 = ⟨[4, 17], [], [⟨0, [0, 1, 7, 8], []⟩], [], [], [], [], [], []⟩ := by kernel_rfl
theorem o179 (vs : List V) : EE.orc 179 vs = none := by kernel_rfl
theorem h180 : EE.H 180 = ⟨[], [], [⟨0, [0, 3], []⟩], [], [], [], [], [], []⟩ := by kernel_rfl
theorem o180 (vs : List V) : EE.orc 180 vs = none := by kernel_rfl
theorem h181 : EE.H 181 = ⟨[2], [], [], [], [], [], [], [], []⟩ := by kernel_rfl
theorem o181 (vs : List V) : EE.orc 181 vs = none := by kernel_rfl
theorem h182 : EE.H 182 = ⟨[19], [], [⟨0, [2, 3, 12, 13, 14], [1, 2, 3]⟩], [], [], [], [], [], []⟩ := by kernel_rfl
theorem o182 (vs : List V) : EE.orc 182 vs = none := by kernel_rfl
theorem h183 : EE.H 183 = ⟨[8, 50], [], [⟨0, [1, 2, 3, 4, 9, 10], [4]⟩], [], [], [], [], [], []⟩ := by kernel_rfl
theorem o183 (vs : List V) : EE.orc 183 vs = none := by kernel_rfl
theorem h184 : EE.H 184 = ⟨[4, 26], [], [⟨0, [0, 1, 5], []⟩], [], [], [], [], [], []⟩ := by kernel_rfl
theorem o184 (vs : List V) : EE.orc 184 vs = none := by kernel_rfl
theorem h185 : EE.H 185 = ⟨[4, 26], [], [⟨0, [1, 2, 5], [2]⟩], [], [], [], [], [], []⟩ := by kernel_rfl
theorem o185 (vs : List V) : EE.orc 185 vs = none := by kernel_rfl
theorem h186 : EE.H 186 = ⟨[2], [], [⟨0, [1, 3, 4], [1]⟩], [], [], [], [], [], []⟩ := by kernel_rfl
theorem o186 (vs : List V) : EE.orc 186 vs = none := by kernel_rfl
theorem h187 : EE.H 187 = ⟨[2], [], [⟨0, [1, 3], [1]⟩], [], [], [], [], [], []⟩ := by kernel_rfl
theorem o187 (vs : List V) : EE.orc 187 vs = none := by kernel_rfl
theorem h188 : EE.H 188 = ⟨[], [], [], [], [], [], [], [], []⟩ := by kernel_rfl
theorem o188 (vs : List V) : EE.orc 188 vs = none := by kernel_rfl
theorem h189 : EE.H 189 = ⟨[], [3], [⟨0, [2, 3, 4], [1, 2, 3, 217]⟩], [], [], [6], [], [], []⟩ := by kernel_rfl
theorem o189 (vs : List V) : EE.orc 189 vs = none := by kernel_rfl
theorem h190 : EE.H 190 = ⟨[3, 4, 7, 52, 56, 67, 86, 91, 97], [], [⟨0, [1, 2, 4, 5, 6], [1, 2, 5]⟩, ⟨2, [1, 2, 4, 5, 6, 7, 8], [1, 2, 5]⟩], [], [(20, [0, 2, 3, 4, 5, 6, 7, 8, 9, 10, 11, 12, 13, 1, 14, 15, 16, 17, 18, 19])], [], [], [], []⟩ := by kernel_rfl
theorem o190 (vs : List V) : EE.orc 190 vs = none := by kernel_rfl
theorem h191 : EE.H 191 = ⟨[5, 7, 10, 80, 84, 95, 107, 112, 118], [], [⟨0, [2, 3, 4, 7, 8, 9], [2, 3, 4, 6, 8]⟩, ⟨2, [2, 3, 4, 7, 8, 9, 10, 11], [2, 3, 4, 6, 8]⟩], [], [(23, [0, 2, 3, 4, 5, 6, 7, 1, 8, 9, 10, 11, 12])], [], [], [], []⟩ := by kernel_rfl
theorem o191 (vs : List V) : EE.orc 191 vs = none := by kernel_rfl
theorem h192 : EE.H 192 = ⟨[7, 10, 14, 88, 92, 125, 131, 136, 142], [], [⟨0, [2, 3, 4, 6, 8, 9, 10, 11], [3, 4, 6, 9]⟩, ⟨2, [2, 3, 4, 6, 8, 9, 10, 11, 12, 13, 14, 15], [3, 4, 6, 9]⟩], [], [], [], [], [], []⟩ := by kernel_rfl
theorem o192 (vs : List V) : EE.orc 192 vs = none := by kernel_rfl
theorem h193 : EE.H 193 = ⟨[2, 22], [7], [⟨0, [0, 3, 4], [7]⟩], [], [], [], [], [], []⟩ := by kernel_rfl
theorem o193 (vs : List V) : EE.orc 193 vs = none := by kernel_rfl
theorem h194 : EE.H 194 = ⟨[4], [], [⟨0, [1, 5, 36, 37, 38], [2]⟩], [], [], [], [], [], []⟩ := by kernel_rfl
theorem o194 (vs : List V) : EE.orc 194 vs = none := by kernel_rfl
theorem h195 : EE.H 195 = ⟨[39, 47], [26], [⟨0, [0, 2, 4, 5, 16, 17], [2, 5]⟩], [], [], [], [], [], []⟩ := by kernel_rfl
theorem o195 (vs : List V) : EE.orc 195 vs = none := by kernel_rfl
theorem h196 : EE.H 196 = ⟨[5, 20], [], [], [], [], [], [], [], []⟩ := by kernel_rfl
theorem o196 (vs : List V) : EE.orc 196 vs = none := by kernel_rfl
theorem h197 : EE.H 197 = ⟨[7, 28], [], [], [], [], [], [], [], []⟩ := by kernel_rfl
theorem o197 (vs : List V) : EE.orc 197 vs = none := by kernel_rfl
theorem h198 : EE.H 198 = ⟨[3, 11], [], [], [], [], [], [], [], []⟩ := by kernel_rfl
theorem o198 (vs : List V) : EE.orc 198 vs = none := by kernel_rfl
theorem h199 : EE.H 199 = ⟨[21], [], [⟨0, [2, 3, 14, 15, 16], [1, 2, 3]⟩], [], [], [], [], [], []⟩ := by kernel_rfl
theorem o199 (vs : List V) : EE.orc 199 vs = none := by kernel_rfl
theorem h200 : EE.H 200 = ⟨[], [], [], [], [], [], [], [], []⟩ := by kernel_rfl
theorem o200 (vs : List V) : EE.orc 200 vs = none := by kernel_rfl
theorem h201 : EE.H 201 = ⟨[], [], [⟨0, [0, 1, 5], []⟩], [], [], [], [], [], []⟩ := by kernel_rfl
theorem o201 (vs : List V) : EE.orc 201 vs = none := by kernel_rfl
theorem h202 : EE.H 202 = ⟨[4, 8, 9], [], [], [], [], [], [], [], []⟩ := by kernel_rfl
theorem o202 (vs : List V) : EE.orc 202 vs = none := by kernel_rfl
theorem h203 : EE.H 203 = ⟨[], [], [], [], [], [], [], [], []⟩ := by kernel_rfl
theorem o203 (vs : List V) : EE.orc 203 vs = none := by kernel_rfl
theorem h204 : EE.H 204 = ⟨[6, 34, 39, 44, 53], [], [⟨0, [0, 2, 3, 4, 5], [2, 3]⟩, ⟨2, [0, 2, 3, 4, 5, 6, 7], [2, 3]⟩], [], [], [], [], [], []⟩ := by kernel_rfl
theorem o204 (vs : List V) : EE.orc 204 vs = none := by kernel_rfl
theorem h205 : EE.H 205 = ⟨[], [], [], [], [], [8], [], [], []⟩ := by kernel_rfl
theorem o205 (vs : List V) : EE.orc 205 vs = none := by kernel_rfl
theorem h206 : EE.H 206 = ⟨[6, 29], [], [⟨0, [1, 2, 3, 7, 8], [3]⟩], [], [], [], [7], [], []⟩ := by kernel_rfl
theorem o206 (vs : List V) : EE.orc 206 vs = none := by kernel_rfl
theorem h207 : EE.H 207 = ⟨[], [], [⟨0, [1, 2, 5], [2]⟩], [], [], [], [], [], []⟩ := by kernel_rfl
theorem o207 (vs : List V) : EE.orc 207 vs = none := by kernel_rfl
theorem h208 : EE.H 208 = ⟨[4, 6, 33, 39, 43], [], [⟨0, [0, 1, 5], []⟩], [], [], [], [4], [], []⟩ := by kernel_rfl
theorem o208 (vs : List V) : EE.orc 208 vs = none := by kernel_rfl
theorem h209 : EE.H 209 = ⟨[4, 40], [], [⟨0, [0, 3, 5], [3]⟩], [], [], [], [], [], []⟩ := by kernel_rfl
theorem o209 (vs : List V) : EE.orc 209 vs = none := by kernel_rfl
theorem h210 : EE.H 210 = ⟨[], [], [], [], [], [], [], [], []⟩ := by kernel_rfl
theorem o210 (vs : List V) : EE.orc 210 vs = none := by kernel_rfl
theorem h211 : EE.H 211 = ⟨[], [], [], [], [], [], [], [], []⟩ := by kernel_rfl
theorem o211 (vs : List V) : EE.orc 211 vs = none := by kernel_rfl
theorem h212 : EE.H 212 = ⟨[], [], [], [], [], [], [], [], []⟩ := by kernel_rfl
theorem o212 (vs : List V) : EE.orc 212 vs = none := by kernel_rfl
theorem h213 : EE.H 213 = ⟨[9, 11, 15, 43, 56, 65, 71, 82, 88], [], [⟨0, [1, 2, 3, 8, 11, 12, 13, 14], [4, 8, 13, 22]⟩, ⟨2, [1, 2, 3, 8, 11, 12, 13, 14, 15, 33], [4, 8, 13, 22]⟩], [77], [(21, [0, 2, 3, 4, 5, 6, 7, 1, 8, 9, 10, 11])], [], [], [77], []⟩ := by kernel_rfl
theorem o213 (vs : List V) : EE.orc 213 vs = none := by kernel_rfl
theorem h214 : EE.H 214 = ⟨[3], [], [], [], [], [], [], [], []⟩ := by kernel_rfl
theorem o214 (vs : List V) : EE.orc 214 vs = none := by kernel_rfl
theorem h215 : EE.H 215 = ⟨[], [], [⟨0, [1, 8, 9, 10], [2]⟩], [], [], [], [], [], []⟩ := by kernel_rfl
theorem o215 (vs : List V) : EE.orc 215 vs = none := by kernel_rfl
theorem h216 : EE.H 216 = ⟨[], [], [], [24], [], [], [], [24], []⟩ := by kernel_rfl
theorem o216 (vs : List V) : EE.orc 216 vs = none := by kernel_rfl
theorem h217 : EE.H 217 = ⟨[6, 31], [], [⟨0, [1, 2, 7, 11, 12, 13], [3]⟩], [], [], [], [], [], []⟩ := by kernel_rfl
theorem o217 (vs : List V) : EE.orc 217 vs = none := by kernel_rfl
theorem h218 : EE.H 218 = ⟨[], [], [], [], [], [], [], [], []⟩ := by kernel_rfl
theorem o218 (vs : List V) : EE.orc 218 vs = none := by kernel_rfl
theorem h219 : EE.H 219 = ⟨[9, 11, 15, 43, 56, 65, 71, 82, 88], [], [⟨0, [1, 2, 3, 8, 11, 12, 13, 14], [4, 8, 13, 22]⟩, ⟨2, [1, 2, 3, 8, 11, 12, 13, 14, 15, 33], [4, 8, 13, 22]⟩], [77], [(21, [0, 2, 3, 4, 5, 6, 7, 1, 8, 9, 10, 11])], [], [], [77], []⟩ := by kernel_rfl
theorem o219 (vs : List V) : EE.orc 219 vs = none := by kernel_rfl
theorem h220 : EE.H 220 = ⟨[5], [], [], [], [], [], [], [], []⟩ := by kernel_rfl
theorem o220 (vs : List V) : EE.orc 220 vs = none := by kernel_rfl
theorem h221 : EE.H 221 = ⟨[], [], [], [], [], [], [], [], [25]⟩ := by kernel_rfl
theorem o221 (vs : List V) : EE.orc 221 vs = none := by kernel_rfl
theorem h222 : EE.H 222 = ⟨[3], [], [], [], [], [], [], [], []⟩ := by kernel_rfl
theorem o222 (vs : List V) : EE.orc 222 vs = none := by kernel_rfl
theorem h223 : EE.H 223 = ⟨[], [], [], [], [], [], [], [], []⟩ := by kernel_rfl
theorem o223 (vs : List V) : EE.orc 223 vs = none := by kernel_rfl
theorem h224 : EE.H 224 = ⟨[], [], [⟨0, [0, 1, 5], []⟩], [], [], [], [], [], []⟩ := by kernel_rfl
theorem o224 (vs : List V) : EE.orc 224 vs = none := by kernel_rfl
attribute [go_sem] EP h3 o3 h4 o4 h5 o5 h6 o6 h7 o7 h8 o8 h9 o9 h10 o10 h11 o11 h12 o12 h13 o13 h14 o14 h15 o15 h16 o16 h17 o17 h18 o18 h19 o19 h20 o20 h21 o21 h22 o22 h23 o23 h24 o24 h25 o25 h26 o26 h27 o27 h28 o28 h29 o29 h30 o30 h31 o31 h32 o32 h33 o33 h34 o34 h35 o35 h36 o36 h37 o37 h38 o38 h39 o39 h40 o40 h41 o41 h42 o42 h43 o43 h44 o44 h45 o45 h46 o46 h47 o47 h48 o48 h49 o49 h50 o50 h51 o51 h52 o52 h53 o53 h54 o54 h55 o55 h56 o56 h57 o57 h58 o58 h59 o59 h60 o60 h61 o61 h62 o62 h63 o63 h64 o64 h65 o65 h66 o66 h67 o67 h68 o68 h69 o69 h70 o70 h71 o71 h72 o72 h73 o73 h74 o74 h75 o75 h76 o76 h77 o77 h78 o78 h79 o79 h80 o80 h81 o81 h82 o82 h83 o83 h84 o84 h85 o85 h86 o86 h87 o87 h88 o88 h89 o89 h90 o90 h91 o91 h92 o92 h93 o93 h94 o94 h95 o95 h96 o96 h97 o97 h98 o98 h99 o99 h100 o100 h101 o101 h102 o102 h103 o103 h104 o104 h105 o105 h106 o106 h107 o107 h108 o108 h109 o109 h110 o110 h111 o111 h112 o112 h113 o113 h114 o114 h115 o115 h116 o116 h117 o117 h118 o118 h119 o119 h120 o120 h121 o121 h122 o122 h123 o123 h124 o124 h125 o125 h126 o126 h127 o127 h128 o128 h129 o129 h130 o130 h131 o131 h132 o132 h133 o133 h134 o134 h135 o135 h136 o136 h137 o137 h138 o138 h139 o139 h140 o140 h141 o141 h142 o142 h143 o143 h144 o144 h145 o145 h146 o146 h147 o147 h148 o148 h149 o149 h150 o150 h151 o151 h152 o152 h153 o153 h154 o154 h155 o155 h156 o156 h157 o157 h158 o158 h159 o159 h160 o160 h161 o161 h162 o162 h163 o163 h164 o164 h165 o165 h166 o166 h167 o167 h168 o168 h169 o169 h170 o170 h171 o171 h172 o172 h173 o173 h175 o175 h176 o176 h177 o177 h178 o178 h179 o179 h180 o180 h181 o181 h182 o182 h183 o183 h184 o184 h185 o185 h186 o186 h187 o187 h188 o188 h189 o189 h190 o190 h191 o191 h192 o192 h193 o193 h194 o194 h195 o195 h196 o196 h197 o197 h198 o198 h199 o199 h200 o200 h201 o201 h202 o202 h203 o203 h204 o204 h205 o205 h206 o206 h207 o207 h208 o208 h209 o209 h210 o210 h211 o211 h212 o212 h213 o213 h214 o214 h215 o215 h216 o216 h217 o217 h218 o218 h219 o219 h220 o220 h221 o221 h222 o222 h223 o223 h224 o224
end Go.Ev
namespace Go.Ev
open Go Go.Proofs
set_option maxRecDepth 10000
set_option linter.unusedVariables false
set_option linter.unusedSimpArgs false
theorem ix137_1 (l : List Int) (hl : l.length ≤ 9223372036854775806) (p : Int → Bool) (g : Nat) (a : Nat) (os : List (Nat → Option Ob)) (ho : os.length ≠ 0) (hp : ∀ x ∈ l, ∀ b0 : Nat → Option Ob, run EE g (I x :: [.ptr 0 a 0]) (b0 :: os) = some (.bool (p x), b0 :: os)) (hu : (EE.H g).uniq = [] := by kernel_rfl) : run EE 137 [.slc false 1 (l.map I), .fn g [.ptr 0 a 0]] os = some (.int .i64 (posP p l 0), os) := by
  have ho2 : (0 != os.length) = true := by simp; omega
  rw [run_eq EE 137 _ _ Try.func137 (by decide +kernel) rfl (show 2 ≤ _ by decide)]
  dsimp only [Try.f137]
  simp only [go_sem, ho, ho2, hu, Bool.not_false, Bool.true_or, Bool.and_self]
  refine iter_inv (fun i : Nat => i ≤ l.length) (fun i => { t := upd (upd (upd (upd e0 8 (.int .i64 i)) 7 (.int .i64 l.length)) 1 (.fn g [.ptr 0 a 0])) 0 (.slc false 1 (l.map I)), b := n0, o := os, r := #[ResultVar.tmp 4], f := 137, n := 19 }) (fun i => some (.int .i64 (posP p (l.drop i) i), os)) (fun i => l.length - i) ?_ 0 (Nat.zero_le _)
  intro i hi ih
  by_cases h : i < l.length
  · have h1 : (i : Int) < l.length := by omega
    have w := wrap_nat (n := i) (by omega)
    have hx := hp l[i] (List.getElem_mem h) n0
    rw [List.drop_eq_getElem_cons h, posP]
    generalize p l[i] = q at hx ⊢
    try simp only [Rx.enc_eq, Vals.enc, Mor.enc, Sta.enc, Con.enc, Line.enc, Ans.enc, Prob.enc, Prog.enc, Ses.enc, Equ.enc, Mon.enc, Frm.enc, Mov.enc, Stp.enc, Dfa.enc, IL, I, B] at hx
    simp only [go_sem, h1, w, getD_map h, ho, ho2, hu, hx]
    cases q
    · simp only [go_sem, w, ho, ho2, hu, Bool.false_eq_true, if_false]
      exact ih (i + 1) (by omega) (by omega)
    · simp only [go_sem, if_true]
  · have h1 : ¬ (i : Int) < l.length := by omega
    rw [List.drop_eq_nil_of_le (by omega)]
    simp only [go_sem, h1, posP]
theorem cf72_1 (l : List Int) (hl : l.length ≤ 9223372036854775806) (p : Int → Bool) (g : Nat) (a : Nat) (os : List (Nat → Option Ob)) (ho : os.length ≠ 0) (hp : ∀ x ∈ l, ∀ b0 b1 : Nat → Option Ob, run EE g (I x :: [.ptr 0 a 0]) (b0 :: b1 :: os) = some (.bool (p x), b0 :: b1 :: os)) (hu : (EE.H g).uniq = [] := by kernel_rfl) : run EE 72 [.slc false 1 (l.map I), .fn g [.ptr 0 a 0]] os = some (.bool (l.any p), os) := by
  have hi := ix137_1 l hl p g a (n0 :: os) (by simp) (fun x hx b0 => hp x hx b0 n0) hu
  rw [run_eq EE 72 _ _ Try.func72 (by decide +kernel) rfl (show 2 ≤ _ by decide)]
  dsimp only [Try.f72]
  simp only [go_sem, ho, hu, hi, Bool.not_false, Bool.true_or, Bool.and_self]
  rw [← posP_any p l 0]

theorem ix172_1 (l : List (List Int)) (hl : l.length ≤ 9223372036854775806) (p : (List Int) → Bool) (g : Nat) (a : Nat) (os : List (Nat → Option Ob)) (ho : os.length ≠ 0) (hp : ∀ x ∈ l, ∀ b0 : Nat → Option Ob, run EE g (IL x :: [.ptr 0 a 0]) (b0 :: os) = some (.bool (p x), b0 :: os)) (hu : (EE.H g).uniq = [] := by kernel_rfl) : run EE 172 [.slc false 1 (l.map IL), .fn g [.ptr 0 a 0]] os = some (.int .i64 (posP p l 0), os) := by
  have ho2 : (0 != os.length) = true := by simp; omega
  rw [run_eq EE 172 _ _ Try.func172 (by decide +kernel) rfl (show 2 ≤ _ by decide)]
  dsimp only [Try.f172]
  simp only [go_sem, ho, ho2, hu, Bool.not_false, Bool.true_or, Bool.and_self]
  refine iter_inv (fun i : Nat => i ≤ l.length) (fun i => { t := upd (upd (upd (upd e0 8 (.int .i64 i)) 7 (.int .i64 l.length)) 1 (.fn g [.ptr 0 a 0])) 0 (.slc false 1 (l.map IL)), b := n0, o := os, r := #[ResultVar.tmp 4], f := 172, n := 19 }) (fun i => some (.int .i64 (posP p (l.drop i) i), os)) (fun i => l.length - i) ?_ 0 (Nat.zero_le _)
  intro i hi ih
  by_cases h : i < l.length
  · have h1 : (i : Int) < l.length := by omega
    have w := wrap_nat (n := i) (by omega)
    have hx := hp l[i] (List.getElem_mem h) n0
    rw [List.drop_eq_getElem_cons h, posP]
    generalize p l[i] = q at hx ⊢
    try simp only [Rx.enc_eq, Vals.enc, Mor.enc, Sta.enc, Con.enc, Line.enc, Ans.enc, Prob.enc, Prog.enc, Ses.enc, Equ.enc, Mon.enc, Frm.enc, Mov.enc, Stp.enc, Dfa.enc, IL, I, B] at hx
    simp only [go_sem, h1, w, getD_map h, ho, ho2, hu, hx]
    cases q
    · simp only [go_sem, w, ho, ho2, hu, Bool.false_eq_true, if_false]
      exact ih (i + 1) (by omega) (by omega)
    · simp only [go_sem, if_true]
  · have h1 : ¬ (i : Int) < l.length := by omega
    rw [List.drop_eq_nil_of_le (by omega)]
    simp only [go_sem, h1, posP]
theorem cf135_1 (l : List (List Int)) (hl : l.length ≤ 9223372036854775806) (p : (List Int) → Bool) (g : Nat) (a : Nat) (os : List (Nat → Option Ob)) (ho : os.length ≠ 0) (hp : ∀ x ∈ l, ∀ b0 b1 : Nat → Option Ob, run EE g (IL x :: [.ptr 0 a 0]) (b0 :: b1 :: os) = some (.bool (p x), b0 :: b1 :: os)) (hu : (EE.H g).uniq = [] := by kernel_rfl) : run EE 135 [.slc false 1 (l.map IL), .fn g [.ptr 0 a 0]] os = some (.bool (l.any p), os) := by
  have hi := ix172_1 l hl p g a (n0 :: os) (by simp) (fun x hx b0 => hp x hx b0 n0) hu
  rw [run_eq EE 135 _ _ Try.func135 (by decide +kernel) rfl (show 2 ≤ _ by decide)]
  dsimp only [Try.f135]
  simp only [go_sem, ho, hu, hi, Bool.not_false, Bool.true_or, Bool.and_self]
  rw [← posP_any p l 0]

theorem ix121_0 (l : List Line) (hl : l.length ≤ 9223372036854775806) (p : Line → Bool) (g : Nat) (hg : ∀ vs, EE.orc g vs = none) (hp : ∀ x ∈ l, run EE g [Line.enc x] [] = some (.bool (p x), [])) (hu : (EE.H g).uniq = [] := by kernel_rfl) : run EE 121 [.slc false 8 (l.map Line.enc), .fn g []] [] = some (.int .i64 (posP p l 0), []) := by
  rw [run_eq EE 121 _ _ Try.func121 (by decide +kernel) rfl (show 2 ≤ _ by decide)]
  dsimp only [Try.f121]
  simp only [go_sem, hg, hu, Bool.not_false, Bool.true_or, Bool.and_self]
  refine iter_inv (fun i : Nat => i ≤ l.length) (fun i => { t := upd (upd (upd (upd e0 8 (.int .i64 i)) 7 (.int .i64 l.length)) 1 (.fn g [])) 0 (.slc false 8 (l.map Line.enc)), b := n0, o := [], r := #[ResultVar.tmp 4], f := 121, n := 19 }) (fun i => some (.int .i64 (posP p (l.drop i) i), [])) (fun i => l.length - i) ?_ 0 (Nat.zero_le _)
  intro i hi ih
  by_cases h : i < l.length
  · have h1 : (i : Int) < l.length := by omega
    have w := wrap_nat (n := i) (by omega)
    have hx := hp l[i] (List.getElem_mem h)
    rw [List.drop_eq_getElem_cons h, posP]
    generalize p l[i] = q at hx ⊢
    try simp only [Rx.enc_eq, Vals.enc, Mor.enc, Sta.enc, Con.enc, Line.enc, Ans.enc, Prob.enc, Prog.enc, Ses.enc, Equ.enc, Mon.enc, Frm.enc, Mov.enc, Stp.enc, Dfa.enc, IL, I, B] at hx
    simp only [go_sem, h1, w, getD_map h, hg, hu, hx]
    cases q
    · simp only [go_sem, w, hg, hu, Bool.false_eq_true, if_false]
      exact ih (i + 1) (by omega) (by omega)
    · simp only [go_sem, if_true]
  · have h1 : ¬ (i : Int) < l.length := by omega
    rw [List.drop_eq_nil_of_le (by omega)]
    simp only [go_sem, h1, posP]
theorem cf53_0 (l : List Line) (hl : l.length ≤ 9223372036854775806) (p : Line → Bool) (g : Nat) (hg : ∀ vs, EE.orc g vs = none) (hp : ∀ x ∈ l, run EE g [Line.enc x] [] = some (.bool (p x), [])) (hu : (EE.H g).uniq = [] := by kernel_rfl) : run EE 53 [.slc false 8 (l.map Line.enc), .fn g []] [] = some (.bool (l.any p), []) := by
  have hi := ix121_0 l hl p g hg hp hu
  rw [run_eq EE 53 _ _ Try.func53 (by decide +kernel) rfl (show 2 ≤ _ by decide)]
  dsimp only [Try.f53]
  simp only [go_sem, hg, hu, hi, Bool.not_false, Bool.true_or, Bool.and_self]
  rw [← posP_any p l 0]
end Go.Ev
namespace Go.Ev
open Go Go.Proofs
set_option maxRecDepth 10000
set_option linter.unusedVariables false
set_option linter.unusedSimpArgs false

theorem r79 (c : Int) (h : 0 ≤ c) (h' : c < 256) : run EE 79 [.int .u8 c] [] = some (.int .i64 (ltr c), []) := by
  rw [run_eq EE 79 _ _ Try.func79 (by decide +kernel) rfl (show 1 ≤ _ by decide)]
  dsimp only [Try.f79]
  simp only [go_sem, o75, idx_abc c h h']
theorem r133 (c : Int) : run EE 133 [.int .u8 c] [] = some (.int .i64 (ltr c), []) := by
  rw [run_eq EE 133 _ _ Try.func133 (by decide +kernel) rfl (show 1 ≤ _ by decide)]
  dsimp only [Try.f133]
  have b0 : bt ⟨#[97, 98, 99]⟩ 0 = 97 := by decide +kernel
  have b1 : bt ⟨#[97, 98, 99]⟩ 1 = 98 := by decide +kernel
  have b2 : bt ⟨#[97, 98, 99]⟩ 2 = 99 := by decide +kernel
  have hz : ByteArray.size ⟨#[97, 98, 99]⟩ = 3 := by decide
  simp only [go_sem, iter_eq, b0, hz]
  refine condL_bool (fun k => ?_) (fun k => ?_)
  · have e : c = 97 := by have := eq_of_beq k; omega
    subst e
    simp only [go_sem, ltr]
  · have e : ¬ c = 97 := by intro e; subst e; cases k
    simp only [go_sem, iter_eq, b1, hz]
    refine condL_bool (fun k => ?_) (fun k => ?_)
    · have e' : c = 98 := by have := eq_of_beq k; omega
      subst e'
      simp only [go_sem, ltr]
    · have e' : ¬ c = 98 := by intro e; subst e; cases k
      simp only [go_sem, iter_eq, b2, hz]
      refine condL_bool (fun k => ?_) (fun k => ?_)
      · have e'' : c = 99 := by have := eq_of_beq k; omega
        subst e''
        simp only [go_sem, ltr]
      · have e'' : ¬ c = 99 := by intro e; subst e; cases k
        simp only [go_sem, iter_eq, ltr, e, e', e'']
theorem r90 (a b c : Int) : run EE 90 [.int .i64 a, .int .i64 b, .int .i64 c] [] = some (.bool (decide (b ≤ a) && decide (a ≤ c)), []) := by
  rw [run_eq EE 90 _ _ Try.func90 (by decide +kernel) rfl (show 3 ≤ _ by decide)]
  dsimp only [Try.f90]
  simp only [go_sem]
  refine guardL_bool (fun k => ?_) (fun k => ?_) <;> simp only [go_sem, k, ge_iff_le, Bool.true_and, Bool.false_and] at k ⊢ <;> simp only [go_sem, k, Bool.true_and, Bool.false_and]
theorem r70 (a b c : Int) : run EE 70 [.int .i64 a, .int .i64 b, .int .i64 c] [] = some (.bool (decide (b ≤ a) && decide (a ≤ c)), []) := by
  rw [run_eq EE 70 _ _ Try.func70 (by decide +kernel) rfl (show 3 ≤ _ by decide)]
  dsimp only [Try.f70]
  simp only [go_sem]
  refine guardL_bool (fun k => ?_) (fun k => ?_) <;> simp only [go_sem, k, ge_iff_le, Bool.true_and, Bool.false_and] at k ⊢ <;> simp only [go_sem, k, Bool.true_and, Bool.false_and]
end Go.Ev
namespace Go.Ev
open Go Go.Proofs
set_option maxRecDepth 10000
set_option linter.unusedVariables false
set_option linter.unusedSimpArgs false

theorem r158 (q n : Int) (a : Nat) (os : List (Nat → Option Ob)) (ho : os.length ≠ 0) (hob : obIn a 0 os = some (.box [.int .i64 n])) (h0 : 0 ≤ n) (h1 : n ≤ 1048576) : run EE 158 [.int .i64 q, .ptr 0 a 0] os = some (.bool (!(decide (0 ≤ q) && decide (q ≤ n - 1))), os) := by
  have w := wrap_in (n := n - 1) (by omega) (by omega)
  have f := r70 q 0 (n - 1)
  have ho' : ¬ 0 = os.length := fun e => ho e.symm
  rw [run_eq EE 158 _ _ Try.func158 (by decide +kernel) rfl (show 2 ≤ _ by decide)]
  dsimp only [Try.f158]
  simp only [go_sem, ho', hob, w, f]
theorem r157 (row : List Int) (hl : row.length ≤ 1048576) (n : Int) (a : Nat) (os : List (Nat → Option Ob)) (ho : os.length ≠ 0) (hob : obIn a 0 os = some (.box [.int .i64 n])) (h0 : 0 ≤ n) (h1 : n ≤ 1048576) : run EE 157 [IL row, .ptr 0 a 0] os = some (.bool (!rowOk n row), os) := by
  have f := cf72_1 row (by omega) (fun q => !(decide (0 ≤ q) && decide (q ≤ n - 1))) 158 a (n0 :: os) (by simp) (fun x _ b0 b1 => r158 x n a _ (by simp) (by rw [obIn_cons (by simp), obIn_cons (by simp), obIn_cons ho]; exact hob) h0 h1)
  rw [any_not] at f
  rw [run_eq EE 157 _ _ Try.func157 (by decide +kernel) rfl (show 2 ≤ _ by decide)]
  dsimp only [Try.f157]
  unfold rowOk
  cases k : ((row.length : Int) == 3)
  · simp only [go_sem, bne, k, Bool.not_false, Bool.false_and]
  · simp only [go_sem, bne, k, f, Bool.not_true, Bool.not_false, Bool.true_and]
theorem r105 (d : Dfa) (h1 : d.accept.length ≤ 1048576) (h2 : d.next.length ≤ 1048576) (h3 : ∀ r ∈ d.next, r.length ≤ 1048576) : run EE 105 [d.enc] [] = some (.bool (validD d), []) := by
  have wi := r70 d.accept.length 1 40
  rw [run_eq EE 105 _ _ Try.func105 (by decide +kernel) rfl (show 1 ≤ _ by decide)]
  dsimp only [Try.f105]
  unfold validD
  cases k1 : (decide (1 ≤ (d.accept.length : Int)) && decide ((d.accept.length : Int) ≤ 40))
  · rw [k1] at wi
    simp only [go_sem, wi, Bool.not_false, Bool.false_and]
  rw [k1] at wi
  cases k2 : ((d.next.length : Int) == d.accept.length)
  · simp only [go_sem, wi, bne, k2, Bool.not_true, Bool.not_false, Bool.true_and, Bool.false_and]
  have f := fun (b : Nat → Option Ob) (hb : b 3 = some (.box [.int .i64 (d.accept.length : Int)])) => cf135_1 d.next (by omega) (fun row => !rowOk d.accept.length row) 157 3 [b] (by simp) (fun x hx b0 b1 => r157 x (h3 x hx) d.accept.length 3 _ (by simp) hb (by omega) (by omega))
  simp only [any_not] at f
  simp only [go_sem, wi, bne, k2, Bool.not_true, Bool.not_false, Bool.true_and]
  rw [f _ rfl]
  simp only [go_sem, Bool.not_not]
end Go.Ev
