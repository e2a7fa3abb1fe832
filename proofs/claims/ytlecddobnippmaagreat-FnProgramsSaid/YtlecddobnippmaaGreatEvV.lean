/- What the evaluator is told of the functions, printed by a program. Searches. Leaves: letters, ranges. Automata: validity. Automata: the reference's validity, searches in lists. Automata: the reference's classes. Automata: the reference's classes, by refinement. -/
import Derived.Test.YtlecddobnippmaaGreatEvU
import Derived.Test.YtlecddobnippmaaGreatEvO
import Derived.Test.YtlecddobnippmaaGreatEvP
set_option linter.unusedVariables false
set_option linter.unusedSimpArgs false
namespace Go.aB
open Go Go.Proofs
def hints:List (Nat×Hint):=[(3,⟨[2,28,33,38,85,115,120,127],[],[⟨0,[0,3,4,5,8,11,12],[3,4,6]⟩],[],[],[],[31,36],[],[],[],[],[]⟩),
 (4,⟨[2],[],[],[],[],[],[],[],[],[],[],[]⟩),
 (5,⟨[],[],[],[],[],[],[],[],[],[],[],[5]⟩),
 (6,⟨[32,41,50,59,65],[],[⟨0,[1,2,4,5],[1,2,4]⟩],[],[],[],[37,46,55,63,70],[],[],[70],[],[]⟩),
 (7,⟨[24],[],[⟨0,[1,2,4,5],[1,2,4]⟩],[],[],[],[32],[],[],[32],[],[]⟩),
 (8,⟨[2,3,9,16,23],[],[],[],[],[],[12],[],[],[],[],[]⟩),
 (9,⟨[],[],[⟨0,[2,3,5],[2,3]⟩,⟨2,[2,3,6],[2,3]⟩],[],[],[],[],[],[],[],[],[]⟩),
 (10,⟨[4,7],[],[],[],[],[],[],[],[],[],[],[]⟩),
 (11,⟨[2],[],[⟨0,[0,3],[]⟩],[],[],[],[],[],[],[],[],[]⟩),
 (12,⟨[2,3,15,19],[],[⟨0,[0,3,4],[]⟩],[],[],[],[],[],[],[],[],[]⟩),
 (13,⟨[4,5,49,63,64,66],[],[⟨0,[1,20,21,22],[2]⟩],[],[],[],[],[],[],[],[],[]⟩),
 (14,⟨[3,4],[4],[],[12],[],[],[],[],[],[],[],[]⟩),
 (15,⟨[4,5,56,57,58],[],[⟨0,[1,2,7],[2]⟩],[],[],[],[],[],[],[],[],[]⟩),
 (16,⟨[2],[],[],[],[],[],[],[],[],[],[],[]⟩),
 (17,⟨[2],[],[⟨0,[1,3],[1]⟩],[],[],[],[],[],[],[],[],[]⟩),
 (18,⟨[11,28,34],[],[⟨1,[0,2,3],[2,3]⟩],[13,16,30],[(1000004,[1,3,0,2,3,1,4,5,6,7,8,9,10,11]),(2000004,[1,6,0,2,3,4,5,6,1,7,8,9,10,11]),(1000007,[1,3,0,2,3,1,4,5,6,7])],[],[],[],[],[],[],[]⟩),
 (19,⟨[2],[],[⟨0,[0,3,4],[]⟩],[],[],[],[],[],[],[],[],[]⟩),
 (21,⟨[],[],[],[],[],[19],[],[],[],[],[],[]⟩),
 (22,⟨[27,40],[],[⟨0,[1,2,4,6,22,23],[2,4,6]⟩],[],[(7,[0,2,3,4,5,6,7,8,9,10,1,11,12,13])],[41],[],[],[],[],[],[]⟩),
 (23,⟨[27],[],[⟨0,[2,3,4,6,22,23],[2,3,4,6]⟩],[],[(7,[0,2,3,4,5,6,7,8,9,10,11,12,13,14,15,16,17,18,1,19,20,21])],[49],[],[],[],[],[],[]⟩),
 (24,⟨[3],[],[],[],[],[],[],[],[],[],[],[]⟩),
 (25,⟨[7,28],[],[],[],[],[],[],[],[],[],[],[]⟩),
 (26,⟨[21],[],[⟨0,[2,3,14,15,16],[1,2,3]⟩],[],[],[],[],[],[],[],[],[]⟩),
 (27,⟨[5,15,24,33,42,48,56],[],[],[],[],[],[20,29,38,46,53],[],[],[53],[],[]⟩),
 (28,⟨[2,3],[],[],[],[],[],[],[],[],[],[],[]⟩),
 (29,⟨[],[],[⟨0,[0,1,5],[]⟩],[],[],[],[],[],[],[],[],[]⟩),
 (30,⟨[6],[],[],[],[],[],[],[],[],[],[],[]⟩),
 (31,⟨[2,12],[],[⟨0,[0,3],[]⟩],[],[],[],[],[],[],[],[],[]⟩),
 (32,⟨[2,5,29,42],[],[⟨0,[0,3,4],[]⟩,⟨2,[0,3,4,5,6],[]⟩,⟨4,[0,3,4,5,6,7],[]⟩],[],[],[],[],[],[],[],[],[]⟩),
 (33,⟨[2],[],[],[],[],[],[],[],[],[],[],[]⟩),
 (34,⟨[4],[],[],[],[],[],[],[],[],[],[],[]⟩),
 (35,⟨[6,25],[],[⟨0,[1,2,3,7],[3]⟩],[],[],[],[],[],[],[],[],[]⟩),
 (36,⟨[2],[],[],[],[],[],[],[],[],[],[],[]⟩),
 (37,⟨[4,44],[],[⟨0,[1,2,5,6],[2]⟩],[],[],[],[],[],[],[],[],[]⟩),
 (38,⟨[4,9],[],[⟨0,[1,5,7,8],[2,5]⟩],[],[],[],[],[],[],[],[],[]⟩),
 (39,⟨[4],[],[],[],[],[],[],[],[],[],[],[]⟩),
 (40,⟨[2],[],[],[],[],[],[],[],[],[],[],[]⟩),
 (41,⟨[2,41],[],[],[],[],[],[],[],[],[],[],[]⟩),
 (42,⟨[2,49],[],[],[],[],[],[],[],[],[],[],[]⟩),
 (43,⟨[15,21],[],[⟨0,[0,2,3,4,5],[2,3]⟩],[17],[(1000006,[1,3,0,2,3,1,4,5,6,7])],[],[],[],[],[],[],[]⟩),
 (44,⟨[4],[],[],[],[],[],[],[],[],[],[],[]⟩),
 (45,⟨[4],[],[],[],[],[],[],[],[],[],[],[]⟩),
 (47,⟨[2],[],[],[],[],[],[],[],[],[],[],[]⟩),
 (48,⟨[5,27,33,60,72,133,167,185,210,223,236,237,242],[79,99],[⟨0,[2,4,5,6,7],[2,4,38]⟩,⟨2,[2,4,5,6,7,54,55,56],[2,4,38]⟩,⟨4,[2,4,5,6,12,80,81,82],[2,4,38,79]⟩,⟨6,[2,4,5,6,12,15],[2,4,38]⟩,⟨8,[2,4,5,6,12,15,16,17,100,101,102],[2,4,38,96,99]⟩,⟨10,[2,4,5,6,12,15,16,17,18,20,100,101,102,116,117,118],[2,4,20,38,96,99]⟩,⟨12,[2,4,5,6,12,25,26,27,163,164],[2,4,25,38,160]⟩,⟨14,[2,4,5,6,12,25,26,190,191,192],[2,4,25,38,160]⟩,⟨16,[2,4,5,6,12,25,26,32,33,190,191,192,204,205,206],[2,4,25,38,160]⟩],[],[(61,[0,2,3,4,5,6,7,8,9,10,1,11,12,13])],[220,233],[],[],[],[238,239],[],[]⟩),
 (49,⟨[],[],[⟨0,[11,12,13],[1]⟩],[],[],[],[],[],[],[],[],[]⟩),
 (50,⟨[2],[],[],[],[],[],[],[],[],[],[],[]⟩),
 (51,⟨[3,4,17,25],[],[⟨0,[1,2,4,11,12,13],[1,2]⟩],[],[],[],[],[],[],[],[],[]⟩),
 (52,⟨[9,11,15,43,56,65,71,82,88],[],[⟨0,[1,2,3,8,11,12,13,14],[4,8,13,22]⟩,⟨2,[1,2,3,8,11,12,13,14,15,33],[4,8,13,22]⟩],[77],[(21,[0,2,3,4,5,6,7,1,8,9,10,11])],[],[],[77],[],[],[],[]⟩),
 (53,⟨[5],[],[],[],[],[],[],[],[],[],[],[]⟩),
 (54,⟨[],[],[],[],[],[],[],[],[25],[],[],[]⟩),
 (56,⟨[8],[],[],[],[],[20],[],[],[],[],[],[]⟩),
 (57,⟨[28],[6],[⟨0,[1,2,4,6,7],[2,4,6,430,431]⟩],[],[],[20],[],[],[],[],[45],[]⟩),
 (58,⟨[33],[6],[⟨0,[2,3,4,6,7],[2,3,4,6,439,440]⟩,⟨2,[2,3,4,6,7,8],[2,3,4,6,439,440]⟩],[],[],[21],[],[],[],[],[54],[]⟩),
 (59,⟨[3,10,16],[],[],[],[],[],[],[],[],[],[],[]⟩),
 (60,⟨[7,10,14,88,92,125,131,136,142],[],[⟨0,[2,3,4,6,8,9,10,11],[3,4,6,9]⟩,⟨2,[2,3,4,6,8,9,10,11,12,13,14,15],[3,4,6,9]⟩],[],[],[],[],[],[],[],[],[]⟩),
 (61,⟨[24],[1000003],[⟨0,[2,3,4],[1,2,3,217]⟩],[],[],[6],[],[],[],[],[],[]⟩),
 (62,⟨[6,8,9,48,60,64],[],[⟨0,[1,2,8,9,10,11],[19]⟩,⟨2,[1,2,8,9,10,11,38],[19]⟩],[],[],[],[],[],[],[],[],[]⟩),
 (63,⟨[3],[],[],[],[],[],[],[],[],[],[],[]⟩),
 (64,⟨[5],[],[],[],[],[],[],[],[],[],[],[]⟩),
 (65,⟨[6],[],[],[],[],[],[],[],[],[],[],[]⟩),
 (66,⟨[6],[],[],[],[],[],[],[],[],[],[],[]⟩),
 (67,⟨[],[],[⟨0,[0,3],[]⟩],[],[],[],[],[],[],[],[],[]⟩),
 (68,⟨[4,5,16,25,28],[],[⟨0,[0,1,5,6],[]⟩],[],[],[],[],[],[],[],[],[]⟩),
 (69,⟨[3],[],[],[],[],[],[],[],[],[],[],[]⟩),
 (70,⟨[2],[],[],[],[],[],[],[],[],[],[],[]⟩),
 (71,⟨[4,22],[],[⟨0,[0,5,6,7],[]⟩],[],[],[],[],[],[],[],[],[]⟩),
 (72,⟨[4,17],[],[⟨0,[0,1,7,8],[]⟩],[],[],[],[],[],[],[],[],[]⟩),
 (73,⟨[2],[],[],[],[],[],[],[],[],[],[],[]⟩),
 (74,⟨[2],[],[],[],[],[],[],[],[],[],[],[]⟩),
 (75,⟨[2],[],[],[],[],[],[],[],[],[],[],[]⟩),
 (76,⟨[2,57],[],[],[],[],[],[],[],[],[],[],[]⟩),
 (78,⟨[],[],[],[59,73,84],[],[],[],[],[],[],[],[]⟩),
 (79,⟨[4],[],[],[],[],[],[],[],[],[],[],[]⟩),
 (80,⟨[3],[],[],[],[],[],[],[],[],[],[],[]⟩),
 (81,⟨[4],[],[],[],[],[],[],[],[],[],[],[]⟩),
 (82,⟨[3],[],[],[],[],[],[],[],[],[],[],[]⟩),
 (83,⟨[4],[],[⟨0,[1,5,36,37,38],[2]⟩],[],[],[],[],[],[],[],[],[]⟩),
 (84,⟨[39,47],[26],[⟨0,[0,2,4,5,16,17],[2,5]⟩],[],[],[],[],[],[],[],[],[]⟩),
 (85,⟨[5,20],[],[],[],[],[],[],[],[],[],[],[]⟩),
 (86,⟨[3,11],[],[],[],[],[],[],[],[],[],[],[]⟩),
 (87,⟨[6,45],[],[⟨0,[2,3,8,9],[3]⟩],[],[],[],[],[],[],[],[],[]⟩),
 (88,⟨[4,7,46,50,57,70,71,75],[],[⟨0,[1,2,3,4,5,6],[1,2,5]⟩,⟨2,[1,2,3,4,5,6,7,8],[1,2,5]⟩],[],[(15,[0,2,3,4,5,6,7,8,9,10,1,11,12,13])],[55,67],[],[],[],[72,73],[],[]⟩),
 (89,⟨[7,22,38,50],[],[⟨0,[1,2,4,5,6],[2,4,5]⟩,⟨2,[1,2,4,5,6,7,8],[2,4,5]⟩],[],[(9,[1,2,3,4,5,6,7,8,9,10,11,12,13,0,14,15]),(10,[0,2,3,4,5,6,7,8,9,1,10,11,12])],[],[],[],[],[],[],[]⟩),
 (90,⟨[],[],[⟨0,[1,3,4],[1]⟩,⟨2,[1,3,4,5],[1]⟩],[],[],[],[],[],[],[],[],[]⟩),
 (91,⟨[18,29],[],[⟨0,[1,2,3,4],[1,2,3]⟩],[],[(5,[0,2,3,4,5,6,7,8,9,1,10,11,12])],[8,25],[],[],[],[26,27],[],[]⟩),
 (92,⟨[2],[],[],[],[],[],[],[],[],[],[],[]⟩),
 (93,⟨[3,16,36,42,43,57,63,72],[],[],[],[],[],[],[],[],[],[],[]⟩),
 (94,⟨[4,18],[],[⟨0,[0,1,5],[]⟩],[],[],[],[],[],[],[],[],[]⟩),
 (96,⟨[],[],[],[],[],[8],[],[],[],[],[],[]⟩),
 (97,⟨[4],[],[],[],[],[],[],[],[],[],[],[]⟩),
 (98,⟨[2],[],[],[],[],[],[],[],[],[],[],[]⟩),
 (99,⟨[4],[],[],[],[],[],[],[],[],[],[],[]⟩),
 (100,⟨[4,17],[],[⟨0,[0,1,7,8],[]⟩],[],[],[],[],[],[],[],[],[]⟩),
 (101,⟨[4,17],[],[⟨0,[0,1,7,8],[]⟩],[],[],[],[],[],[],[],[],[]⟩),
 (104,⟨[9,11,15,43,56,65,71,82,88],[],[⟨0,[1,2,3,8,11,12,13,14],[4,8,13,22]⟩,⟨2,[1,2,3,8,11,12,13,14,15,33],[4,8,13,22]⟩],[77],[(21,[0,2,3,4,5,6,7,1,8,9,10,11])],[],[],[77],[],[],[],[]⟩),
 (105,⟨[3],[],[],[],[],[],[],[],[],[],[],[]⟩),
 (106,⟨[],[],[⟨0,[1,8,9,10],[2]⟩],[],[],[],[],[],[],[],[],[]⟩),
 (107,⟨[],[],[],[24],[],[],[],[24],[],[],[],[]⟩),
 (108,⟨[6,31],[],[⟨0,[1,2,7,11,12,13],[3]⟩],[],[],[],[],[],[],[],[],[]⟩),
 (109,⟨[3],[],[],[],[],[],[],[],[],[],[],[]⟩),
 (111,⟨[2,59],[14,34],[⟨0,[1,3,4,5],[1,14]⟩,⟨2,[1,3,4,6],[1]⟩,⟨4,[1,3,4,6,7,8],[1,34]⟩,⟨6,[1,3,4,6,7,8,9],[1,34]⟩],[],[],[],[],[],[],[],[],[]⟩),
 (112,⟨[4,8,12],[],[],[],[],[],[],[],[],[],[],[]⟩),
 (113,⟨[4,26],[],[⟨0,[1,2,5],[2]⟩],[],[],[],[],[],[],[],[],[]⟩),
 (114,⟨[2],[],[⟨0,[1,3,4],[1]⟩],[],[],[],[],[],[],[],[],[]⟩),
 (115,⟨[2],[],[⟨0,[1,3],[1]⟩],[],[],[],[],[],[],[],[],[]⟩),
 (117,⟨[3,4,7,52,56,67,86,91,97],[],[⟨0,[1,2,4,5,6],[1,2,5]⟩,⟨2,[1,2,4,5,6,7,8],[1,2,5]⟩],[],[(20,[0,2,3,4,5,6,7,8,9,10,11,12,13,1,14,15,16,17,18,19])],[],[],[],[],[],[],[]⟩),
 (118,⟨[5,7,10,80,84,95,107,112,118],[],[⟨0,[2,3,4,7,8,9],[2,3,4,6,8]⟩,⟨2,[2,3,4,7,8,9,10,11],[2,3,4,6,8]⟩],[],[(23,[0,2,3,4,5,6,7,1,8,9,10,11,12])],[],[],[],[],[],[],[]⟩),
 (119,⟨[4],[],[],[],[],[],[],[],[],[],[],[]⟩),
 (120,⟨[8,50],[],[⟨0,[1,2,3,4,9,10],[4]⟩],[],[],[],[],[],[],[],[],[]⟩),
 (121,⟨[4,8,9],[],[],[],[],[],[],[],[],[],[],[]⟩),
 (123,⟨[6,34,39,44,53],[],[⟨0,[0,2,3,4,5],[2,3]⟩,⟨2,[0,2,3,4,5,6,7],[2,3]⟩],[],[],[],[],[],[],[],[],[]⟩),
 (124,⟨[6,29],[],[⟨0,[1,2,3,7,8],[3]⟩],[],[],[],[7],[],[],[],[],[]⟩),
 (125,⟨[],[],[⟨0,[1,2,5],[2]⟩],[],[],[],[],[],[],[],[],[]⟩),
 (126,⟨[4,6,33,39,43],[],[⟨0,[0,1,5],[]⟩],[],[],[],[4],[],[],[],[],[]⟩),
 (127,⟨[4,40],[],[⟨0,[0,3,5],[3]⟩],[],[],[],[],[],[],[],[],[]⟩)]
noncomputable def ak:Env:={P:=Tryz.prog,H:=fun f=>((hints.find? (·.1==f)).map (·.2)).getD ⟨[],[],[],[],[],[],[],[],[],[],[],[]⟩,bm:=fun g vs=>if g=97 then Dq vs else none}
theorem EP:ak.P=Tryz.prog:=rfl
theorem KR (s:ByteArray) (c:Int):ak.bm 97 [.str s,.int .u8 c]=some (.int .i64 (xC s c)):=by kernel_rfl
theorem ar:ak.H 3=⟨[2,28,33,38,85,115,120,127],[],[⟨0,[0,3,4,5,8,11,12],[3,4,6]⟩],[],[],[],[31,36],[],[],[],[],[]⟩:=by kernel_rfl
theorem n2 (vs:List V):ak.bm 3 vs=none:=by kernel_rfl
theorem aP:ak.H 4=⟨[2],[],[],[],[],[],[],[],[],[],[],[]⟩:=by kernel_rfl
theorem ar1 (vs:List V):ak.bm 4 vs=none:=by kernel_rfl
theorem bf:ak.H 5=⟨[],[],[],[],[],[],[],[],[],[],[],[5]⟩:=by kernel_rfl
theorem lZ (vs:List V):ak.bm 5 vs=none:=by kernel_rfl
theorem b4:ak.H 6=⟨[32,41,50,59,65],[],[⟨0,[1,2,4,5],[1,2,4]⟩],[],[],[],[37,46,55,63,70],[],[],[70],[],[]⟩:=by kernel_rfl
theorem F2 (vs:List V):ak.bm 6 vs=none:=by kernel_rfl
theorem dh:ak.H 7=⟨[24],[],[⟨0,[1,2,4,5],[1,2,4]⟩],[],[],[],[32],[],[],[32],[],[]⟩:=by kernel_rfl
theorem o7 (vs:List V):ak.bm 7 vs=none:=by kernel_rfl
theorem cH:ak.H 8=⟨[2,3,9,16,23],[],[],[],[],[],[12],[],[],[],[],[]⟩:=by kernel_rfl
theorem o8 (vs:List V):ak.bm 8 vs=none:=by kernel_rfl
theorem gk:ak.H 9=⟨[],[],[⟨0,[2,3,5],[2,3]⟩,⟨2,[2,3,6],[2,3]⟩],[],[],[],[],[],[],[],[],[]⟩:=by kernel_rfl
theorem o9 (vs:List V):ak.bm 9 vs=none:=by kernel_rfl
theorem uK:ak.H 10=⟨[4,7],[],[],[],[],[],[],[],[],[],[],[]⟩:=by kernel_rfl
theorem akF (vs:List V):ak.bm 10 vs=none:=by kernel_rfl
theorem akG:ak.H 11=⟨[2],[],[⟨0,[0,3],[]⟩],[],[],[],[],[],[],[],[],[]⟩:=by kernel_rfl
theorem akH (vs:List V):ak.bm 11 vs=none:=by kernel_rfl
theorem akI:ak.H 12=⟨[2,3,15,19],[],[⟨0,[0,3,4],[]⟩],[],[],[],[],[],[],[],[],[]⟩:=by kernel_rfl
theorem akJ (vs:List V):ak.bm 12 vs=none:=by kernel_rfl
theorem akK:ak.H 13=⟨[4,5,49,63,64,66],[],[⟨0,[1,20,21,22],[2]⟩],[],[],[],[],[],[],[],[],[]⟩:=by kernel_rfl
theorem akL (vs:List V):ak.bm 13 vs=none:=by kernel_rfl
theorem akM:ak.H 14=⟨[3,4],[4],[],[12],[],[],[],[],[],[],[],[]⟩:=by kernel_rfl
theorem akN (vs:List V):ak.bm 14 vs=none:=by kernel_rfl
theorem akO:ak.H 15=⟨[4,5,56,57,58],[],[⟨0,[1,2,7],[2]⟩],[],[],[],[],[],[],[],[],[]⟩:=by kernel_rfl
theorem akP (vs:List V):ak.bm 15 vs=none:=by kernel_rfl
theorem akQ:ak.H 16=⟨[2],[],[],[],[],[],[],[],[],[],[],[]⟩:=by kernel_rfl
theorem akR (vs:List V):ak.bm 16 vs=none:=by kernel_rfl
theorem akS:ak.H 17=⟨[2],[],[⟨0,[1,3],[1]⟩],[],[],[],[],[],[],[],[],[]⟩:=by kernel_rfl
theorem akT (vs:List V):ak.bm 17 vs=none:=by kernel_rfl
theorem akU:ak.H 18=⟨[11,28,34],[],[⟨1,[0,2,3],[2,3]⟩],[13,16,30],[(1000004,[1,3,0,2,3,1,4,5,6,7,8,9,10,11]),(2000004,[1,6,0,2,3,4,5,6,1,7,8,9,10,11]),(1000007,[1,3,0,2,3,1,4,5,6,7])],[],[],[],[],[],[],[]⟩:=by kernel_rfl
theorem akV (vs:List V):ak.bm 18 vs=none:=by kernel_rfl
theorem akW:ak.H 19=⟨[2],[],[⟨0,[0,3,4],[]⟩],[],[],[],[],[],[],[],[],[]⟩:=by kernel_rfl
theorem akX (vs:List V):ak.bm 19 vs=none:=by kernel_rfl
theorem akY:ak.H 20=⟨[],[],[],[],[],[],[],[],[],[],[],[]⟩:=by kernel_rfl
theorem akZ (vs:List V):ak.bm 20 vs=none:=by kernel_rfl
theorem ak0:ak.H 21=⟨[],[],[],[],[],[19],[],[],[],[],[],[]⟩:=by kernel_rfl
theorem ak1 (vs:List V):ak.bm 21 vs=none:=by kernel_rfl
theorem ak2:ak.H 22=⟨[27,40],[],[⟨0,[1,2,4,6,22,23],[2,4,6]⟩],[],[(7,[0,2,3,4,5,6,7,8,9,10,1,11,12,13])],[41],[],[],[],[],[],[]⟩:=by kernel_rfl
theorem ak3 (vs:List V):ak.bm 22 vs=none:=by kernel_rfl
theorem ak4:ak.H 23=⟨[27],[],[⟨0,[2,3,4,6,22,23],[2,3,4,6]⟩],[],[(7,[0,2,3,4,5,6,7,8,9,10,11,12,13,14,15,16,17,18,1,19,20,21])],[49],[],[],[],[],[],[]⟩:=by kernel_rfl
theorem ak5 (vs:List V):ak.bm 23 vs=none:=by kernel_rfl
theorem ak6:ak.H 24=⟨[3],[],[],[],[],[],[],[],[],[],[],[]⟩:=by kernel_rfl
theorem ak7 (vs:List V):ak.bm 24 vs=none:=by kernel_rfl
theorem ak8:ak.H 25=⟨[7,28],[],[],[],[],[],[],[],[],[],[],[]⟩:=by kernel_rfl
theorem ak9 (vs:List V):ak.bm 25 vs=none:=by kernel_rfl
theorem ala:ak.H 26=⟨[21],[],[⟨0,[2,3,14,15,16],[1,2,3]⟩],[],[],[],[],[],[],[],[],[]⟩:=by kernel_rfl
theorem alb (vs:List V):ak.bm 26 vs=none:=by kernel_rfl
theorem alc:ak.H 27=⟨[5,15,24,33,42,48,56],[],[],[],[],[],[20,29,38,46,53],[],[],[53],[],[]⟩:=by kernel_rfl
theorem ald (vs:List V):ak.bm 27 vs=none:=by kernel_rfl
theorem ale:ak.H 28=⟨[2,3],[],[],[],[],[],[],[],[],[],[],[]⟩:=by kernel_rfl
theorem alf (vs:List V):ak.bm 28 vs=none:=by kernel_rfl
theorem alg:ak.H 29=⟨[],[],[⟨0,[0,1,5],[]⟩],[],[],[],[],[],[],[],[],[]⟩:=by kernel_rfl
theorem alh (vs:List V):ak.bm 29 vs=none:=by kernel_rfl
theorem ali:ak.H 30=⟨[6],[],[],[],[],[],[],[],[],[],[],[]⟩:=by kernel_rfl
theorem alj (vs:List V):ak.bm 30 vs=none:=by kernel_rfl
theorem alk:ak.H 31=⟨[2,12],[],[⟨0,[0,3],[]⟩],[],[],[],[],[],[],[],[],[]⟩:=by kernel_rfl
theorem alm (vs:List V):ak.bm 31 vs=none:=by kernel_rfl
theorem aln:ak.H 32=⟨[2,5,29,42],[],[⟨0,[0,3,4],[]⟩,⟨2,[0,3,4,5,6],[]⟩,⟨4,[0,3,4,5,6,7],[]⟩],[],[],[],[],[],[],[],[],[]⟩:=by kernel_rfl
theorem alo (vs:List V):ak.bm 32 vs=none:=by kernel_rfl
theorem alp:ak.H 33=⟨[2],[],[],[],[],[],[],[],[],[],[],[]⟩:=by kernel_rfl
theorem alq (vs:List V):ak.bm 33 vs=none:=by kernel_rfl
theorem alr:ak.H 34=⟨[4],[],[],[],[],[],[],[],[],[],[],[]⟩:=by kernel_rfl
theorem als (vs:List V):ak.bm 34 vs=none:=by kernel_rfl
theorem alu:ak.H 35=⟨[6,25],[],[⟨0,[1,2,3,7],[3]⟩],[],[],[],[],[],[],[],[],[]⟩:=by kernel_rfl
theorem alv (vs:List V):ak.bm 35 vs=none:=by kernel_rfl
theorem alw:ak.H 36=⟨[2],[],[],[],[],[],[],[],[],[],[],[]⟩:=by kernel_rfl
theorem alx (vs:List V):ak.bm 36 vs=none:=by kernel_rfl
theorem aly:ak.H 37=⟨[4,44],[],[⟨0,[1,2,5,6],[2]⟩],[],[],[],[],[],[],[],[],[]⟩:=by kernel_rfl
theorem alz (vs:List V):ak.bm 37 vs=none:=by kernel_rfl
theorem alA:ak.H 38=⟨[4,9],[],[⟨0,[1,5,7,8],[2,5]⟩],[],[],[],[],[],[],[],[],[]⟩:=by kernel_rfl
theorem alB (vs:List V):ak.bm 38 vs=none:=by kernel_rfl
theorem alC:ak.H 39=⟨[4],[],[],[],[],[],[],[],[],[],[],[]⟩:=by kernel_rfl
theorem alD (vs:List V):ak.bm 39 vs=none:=by kernel_rfl
theorem alE:ak.H 40=⟨[2],[],[],[],[],[],[],[],[],[],[],[]⟩:=by kernel_rfl
theorem alF (vs:List V):ak.bm 40 vs=none:=by kernel_rfl
theorem alG:ak.H 41=⟨[2,41],[],[],[],[],[],[],[],[],[],[],[]⟩:=by kernel_rfl
theorem alH (vs:List V):ak.bm 41 vs=none:=by kernel_rfl
theorem alI:ak.H 42=⟨[2,49],[],[],[],[],[],[],[],[],[],[],[]⟩:=by kernel_rfl
theorem alJ (vs:List V):ak.bm 42 vs=none:=by kernel_rfl
theorem alK:ak.H 43=⟨[15,21],[],[⟨0,[0,2,3,4,5],[2,3]⟩],[17],[(1000006,[1,3,0,2,3,1,4,5,6,7])],[],[],[],[],[],[],[]⟩:=by kernel_rfl
theorem alL (vs:List V):ak.bm 43 vs=none:=by kernel_rfl
theorem alM:ak.H 44=⟨[4],[],[],[],[],[],[],[],[],[],[],[]⟩:=by kernel_rfl
theorem alN (vs:List V):ak.bm 44 vs=none:=by kernel_rfl
theorem alO:ak.H 45=⟨[4],[],[],[],[],[],[],[],[],[],[],[]⟩:=by kernel_rfl
theorem alP (vs:List V):ak.bm 45 vs=none:=by kernel_rfl
theorem alQ:ak.H 46=⟨[],[],[],[],[],[],[],[],[],[],[],[]⟩:=by kernel_rfl
theorem alR (vs:List V):ak.bm 46 vs=none:=by kernel_rfl
theorem alS:ak.H 47=⟨[2],[],[],[],[],[],[],[],[],[],[],[]⟩:=by kernel_rfl
theorem alT (vs:List V):ak.bm 47 vs=none:=by kernel_rfl
theorem FZ:ak.H 48=⟨[5,27,33,60,72,133,167,185,210,223,236,237,242],[79,99],[⟨0,[2,4,5,6,7],[2,4,38]⟩,⟨2,[2,4,5,6,7,54,55,56],[2,4,38]⟩,⟨4,[2,4,5,6,12,80,81,82],[2,4,38,79]⟩,⟨6,[2,4,5,6,12,15],[2,4,38]⟩,⟨8,[2,4,5,6,12,15,16,17,100,101,102],[2,4,38,96,99]⟩,⟨10,[2,4,5,6,12,15,16,17,18,20,100,101,102,116,117,118],[2,4,20,38,96,99]⟩,⟨12,[2,4,5,6,12,25,26,27,163,164],[2,4,25,38,160]⟩,⟨14,[2,4,5,6,12,25,26,190,191,192],[2,4,25,38,160]⟩,⟨16,[2,4,5,6,12,25,26,32,33,190,191,192,204,205,206],[2,4,25,38,160]⟩],[],[(61,[0,2,3,4,5,6,7,8,9,10,1,11,12,13])],[220,233],[],[],[],[238,239],[],[]⟩:=by kernel_rfl
theorem alU (vs:List V):ak.bm 48 vs=none:=by kernel_rfl
theorem alV:ak.H 49=⟨[],[],[⟨0,[11,12,13],[1]⟩],[],[],[],[],[],[],[],[],[]⟩:=by kernel_rfl
theorem alW (vs:List V):ak.bm 49 vs=none:=by kernel_rfl
theorem alX:ak.H 50=⟨[2],[],[],[],[],[],[],[],[],[],[],[]⟩:=by kernel_rfl
theorem alY (vs:List V):ak.bm 50 vs=none:=by kernel_rfl
theorem alZ:ak.H 51=⟨[3,4,17,25],[],[⟨0,[1,2,4,11,12,13],[1,2]⟩],[],[],[],[],[],[],[],[],[]⟩:=by kernel_rfl
theorem al0 (vs:List V):ak.bm 51 vs=none:=by kernel_rfl
theorem al1:ak.H 52=⟨[9,11,15,43,56,65,71,82,88],[],[⟨0,[1,2,3,8,11,12,13,14],[4,8,13,22]⟩,⟨2,[1,2,3,8,11,12,13,14,15,33],[4,8,13,22]⟩],[77],[(21,[0,2,3,4,5,6,7,1,8,9,10,11])],[],[],[77],[],[],[],[]⟩:=by kernel_rfl
theorem al2 (vs:List V):ak.bm 52 vs=none:=by kernel_rfl
theorem al3:ak.H 53=⟨[5],[],[],[],[],[],[],[],[],[],[],[]⟩:=by kernel_rfl
theorem al4 (vs:List V):ak.bm 53 vs=none:=by kernel_rfl
theorem al5:ak.H 54=⟨[],[],[],[],[],[],[],[],[25],[],[],[]⟩:=by kernel_rfl
theorem al6 (vs:List V):ak.bm 54 vs=none:=by kernel_rfl
theorem al7:ak.H 55=⟨[],[],[],[],[],[],[],[],[],[],[],[]⟩:=by kernel_rfl
theorem al8 (vs:List V):ak.bm 55 vs=none:=by kernel_rfl
theorem al9:ak.H 56=⟨[8],[],[],[],[],[20],[],[],[],[],[],[]⟩:=by kernel_rfl
theorem ama (vs:List V):ak.bm 56 vs=none:=by kernel_rfl
theorem amb:ak.H 57=⟨[28],[6],[⟨0,[1,2,4,6,7],[2,4,6,430,431]⟩],[],[],[20],[],[],[],[],[45],[]⟩:=by kernel_rfl
theorem amc (vs:List V):ak.bm 57 vs=none:=by kernel_rfl
theorem amd:ak.H 58=⟨[33],[6],[⟨0,[2,3,4,6,7],[2,3,4,6,439,440]⟩,⟨2,[2,3,4,6,7,8],[2,3,4,6,439,440]⟩],[],[],[21],[],[],[],[],[54],[]⟩:=by kernel_rfl
theorem ame (vs:List V):ak.bm 58 vs=none:=by kernel_rfl
theorem amf:ak.H 59=⟨[3,10,16],[],[],[],[],[],[],[],[],[],[],[]⟩:=by kernel_rfl
theorem amg (vs:List V):ak.bm 59 vs=none:=by kernel_rfl
theorem amh:ak.H 60=⟨[7,10,14,88,92,125,131,136,142],[],[⟨0,[2,3,4,6,8,9,10,11],[3,4,6,9]⟩,⟨2,[2,3,4,6,8,9,10,11,12,13,14,15],[3,4,6,9]⟩],[],[],[],[],[],[],[],[],[]⟩:=by kernel_rfl
theorem ami (vs:List V):ak.bm 60 vs=none:=by kernel_rfl
theorem amj:ak.H 61=⟨[24],[1000003],[⟨0,[2,3,4],[1,2,3,217]⟩],[],[],[6],[],[],[],[],[],[]⟩:=by kernel_rfl
theorem amk (vs:List V):ak.bm 61 vs=none:=by kernel_rfl
theorem aml:ak.H 62=⟨[6,8,9,48,60,64],[],[⟨0,[1,2,8,9,10,11],[19]⟩,⟨2,[1,2,8,9,10,11,38],[19]⟩],[],[],[],[],[],[],[],[],[]⟩:=by kernel_rfl
theorem amm (vs:List V):ak.bm 62 vs=none:=by kernel_rfl
theorem amn:ak.H 63=⟨[3],[],[],[],[],[],[],[],[],[],[],[]⟩:=by kernel_rfl
theorem amo (vs:List V):ak.bm 63 vs=none:=by kernel_rfl
theorem amp:ak.H 64=⟨[5],[],[],[],[],[],[],[],[],[],[],[]⟩:=by kernel_rfl
theorem amq (vs:List V):ak.bm 64 vs=none:=by kernel_rfl
theorem amr:ak.H 65=⟨[6],[],[],[],[],[],[],[],[],[],[],[]⟩:=by kernel_rfl
theorem ams (vs:List V):ak.bm 65 vs=none:=by kernel_rfl
theorem amt:ak.H 66=⟨[6],[],[],[],[],[],[],[],[],[],[],[]⟩:=by kernel_rfl
theorem amu (vs:List V):ak.bm 66 vs=none:=by kernel_rfl
theorem amv:ak.H 67=⟨[],[],[⟨0,[0,3],[]⟩],[],[],[],[],[],[],[],[],[]⟩:=by kernel_rfl
theorem amw (vs:List V):ak.bm 67 vs=none:=by kernel_rfl
theorem amx:ak.H 68=⟨[4,5,16,25,28],[],[⟨0,[0,1,5,6],[]⟩],[],[],[],[],[],[],[],[],[]⟩:=by kernel_rfl
theorem amy (vs:List V):ak.bm 68 vs=none:=by kernel_rfl
theorem amz:ak.H 69=⟨[3],[],[],[],[],[],[],[],[],[],[],[]⟩:=by kernel_rfl
theorem KS (vs:List V):ak.bm 69 vs=none:=by kernel_rfl
theorem amA:ak.H 70=⟨[2],[],[],[],[],[],[],[],[],[],[],[]⟩:=by kernel_rfl
theorem amB (vs:List V):ak.bm 70 vs=none:=by kernel_rfl
theorem amC:ak.H 71=⟨[4,22],[],[⟨0,[0,5,6,7],[]⟩],[],[],[],[],[],[],[],[],[]⟩:=by kernel_rfl
theorem amD (vs:List V):ak.bm 71 vs=none:=by kernel_rfl
theorem amE:ak.H 72=⟨[4,17],[],[⟨0,[0,1,7,8],[]⟩],[],[],[],[],[],[],[],[],[]⟩:=by kernel_rfl
theorem amF (vs:List V):ak.bm 72 vs=none:=by kernel_rfl
theorem amG:ak.H 73=⟨[2],[],[],[],[],[],[],[],[],[],[],[]⟩:=by kernel_rfl
theorem amH (vs:List V):ak.bm 73 vs=none:=by kernel_rfl
theorem amI:ak.H 74=⟨[2],[],[],[],[],[],[],[],[],[],[],[]⟩:=by kernel_rfl
theorem amJ (vs:List V):ak.bm 74 vs=none:=by kernel_rfl
theorem amK:ak.H 75=⟨[2],[],[],[],[],[],[],[],[],[],[],[]⟩:=by kernel_rfl
theorem amL (vs:List V):ak.bm 75 vs=none:=by kernel_rfl
theorem amM:ak.H 76=⟨[2,57],[],[],[],[],[],[],[],[],[],[],[]⟩:=by kernel_rfl
theorem amN (vs:List V):ak.bm 76 vs=none:=by kernel_rfl
theorem amO:ak.H 77=⟨[],[],[],[],[],[],[],[],[],[],[],[]⟩:=by kernel_rfl
theorem amP (vs:List V):ak.bm 77 vs=none:=by kernel_rfl
theorem amQ:ak.H 78=⟨[],[],[],[59,73,84],[],[],[],[],[],[],[],[]⟩:=by kernel_rfl
theorem amR (vs:List V):ak.bm 78 vs=none:=by kernel_rfl
theorem amS:ak.H 79=⟨[4],[],[],[],[],[],[],[],[],[],[],[]⟩:=by kernel_rfl
theorem amT (vs:List V):ak.bm 79 vs=none:=by kernel_rfl
theorem amU:ak.H 80=⟨[3],[],[],[],[],[],[],[],[],[],[],[]⟩:=by kernel_rfl
theorem amV (vs:List V):ak.bm 80 vs=none:=by kernel_rfl
theorem amW:ak.H 81=⟨[4],[],[],[],[],[],[],[],[],[],[],[]⟩:=by kernel_rfl
theorem amX (vs:List V):ak.bm 81 vs=none:=by kernel_rfl
theorem amY:ak.H 82=⟨[3],[],[],[],[],[],[],[],[],[],[],[]⟩:=by kernel_rfl
theorem amZ (vs:List V):ak.bm 82 vs=none:=by kernel_rfl
theorem am0:ak.H 83=⟨[4],[],[⟨0,[1,5,36,37,38],[2]⟩],[],[],[],[],[],[],[],[],[]⟩:=by kernel_rfl
theorem am1 (vs:List V):ak.bm 83 vs=none:=by kernel_rfl
theorem am2:ak.H 84=⟨[39,47],[26],[⟨0,[0,2,4,5,16,17],[2,5]⟩],[],[],[],[],[],[],[],[],[]⟩:=by kernel_rfl
theorem am3 (vs:List V):ak.bm 84 vs=none:=by kernel_rfl
theorem am4:ak.H 85=⟨[5,20],[],[],[],[],[],[],[],[],[],[],[]⟩:=by kernel_rfl
theorem am5 (vs:List V):ak.bm 85 vs=none:=by kernel_rfl
theorem am6:ak.H 86=⟨[3,11],[],[],[],[],[],[],[],[],[],[],[]⟩:=by kernel_rfl
theorem am7 (vs:List V):ak.bm 86 vs=none:=by kernel_rfl
theorem am8:ak.H 87=⟨[6,45],[],[⟨0,[2,3,8,9],[3]⟩],[],[],[],[],[],[],[],[],[]⟩:=by kernel_rfl
theorem am9 (vs:List V):ak.bm 87 vs=none:=by kernel_rfl
theorem ana:ak.H 88=⟨[4,7,46,50,57,70,71,75],[],[⟨0,[1,2,3,4,5,6],[1,2,5]⟩,⟨2,[1,2,3,4,5,6,7,8],[1,2,5]⟩],[],[(15,[0,2,3,4,5,6,7,8,9,10,1,11,12,13])],[55,67],[],[],[],[72,73],[],[]⟩:=by kernel_rfl
theorem anb (vs:List V):ak.bm 88 vs=none:=by kernel_rfl
theorem anc:ak.H 89=⟨[7,22,38,50],[],[⟨0,[1,2,4,5,6],[2,4,5]⟩,⟨2,[1,2,4,5,6,7,8],[2,4,5]⟩],[],[(9,[1,2,3,4,5,6,7,8,9,10,11,12,13,0,14,15]),(10,[0,2,3,4,5,6,7,8,9,1,10,11,12])],[],[],[],[],[],[],[]⟩:=by kernel_rfl
theorem ane (vs:List V):ak.bm 89 vs=none:=by kernel_rfl
theorem anf:ak.H 90=⟨[],[],[⟨0,[1,3,4],[1]⟩,⟨2,[1,3,4,5],[1]⟩],[],[],[],[],[],[],[],[],[]⟩:=by kernel_rfl
theorem ang (vs:List V):ak.bm 90 vs=none:=by kernel_rfl
theorem anh:ak.H 91=⟨[18,29],[],[⟨0,[1,2,3,4],[1,2,3]⟩],[],[(5,[0,2,3,4,5,6,7,8,9,1,10,11,12])],[8,25],[],[],[],[26,27],[],[]⟩:=by kernel_rfl
theorem ani (vs:List V):ak.bm 91 vs=none:=by kernel_rfl
theorem anj:ak.H 92=⟨[2],[],[],[],[],[],[],[],[],[],[],[]⟩:=by kernel_rfl
theorem ank (vs:List V):ak.bm 92 vs=none:=by kernel_rfl
theorem anl:ak.H 93=⟨[3,16,36,42,43,57,63,72],[],[],[],[],[],[],[],[],[],[],[]⟩:=by kernel_rfl
theorem anm (vs:List V):ak.bm 93 vs=none:=by kernel_rfl
theorem ann:ak.H 94=⟨[4,18],[],[⟨0,[0,1,5],[]⟩],[],[],[],[],[],[],[],[],[]⟩:=by kernel_rfl
theorem ano (vs:List V):ak.bm 94 vs=none:=by kernel_rfl
theorem anp:ak.H 95=⟨[],[],[],[],[],[],[],[],[],[],[],[]⟩:=by kernel_rfl
theorem anq (vs:List V):ak.bm 95 vs=none:=by kernel_rfl
theorem anr:ak.H 96=⟨[],[],[],[],[],[8],[],[],[],[],[],[]⟩:=by kernel_rfl
theorem ans (vs:List V):ak.bm 96 vs=none:=by kernel_rfl
theorem ant:ak.H 97=⟨[4],[],[],[],[],[],[],[],[],[],[],[]⟩:=by kernel_rfl
theorem anu:ak.H 98=⟨[2],[],[],[],[],[],[],[],[],[],[],[]⟩:=by kernel_rfl
theorem anv (vs:List V):ak.bm 98 vs=none:=by kernel_rfl
theorem anw:ak.H 99=⟨[4],[],[],[],[],[],[],[],[],[],[],[]⟩:=by kernel_rfl
theorem anx (vs:List V):ak.bm 99 vs=none:=by kernel_rfl
theorem anz:ak.H 100=⟨[4,17],[],[⟨0,[0,1,7,8],[]⟩],[],[],[],[],[],[],[],[],[]⟩:=by kernel_rfl
theorem anA (vs:List V):ak.bm 100 vs=none:=by kernel_rfl
theorem anB:ak.H 101=⟨[4,17],[],[⟨0,[0,1,7,8],[]⟩],[],[],[],[],[],[],[],[],[]⟩:=by kernel_rfl
theorem anC (vs:List V):ak.bm 101 vs=none:=by kernel_rfl
theorem anD:ak.H 102=⟨[],[],[],[],[],[],[],[],[],[],[],[]⟩:=by kernel_rfl
theorem anE (vs:List V):ak.bm 102 vs=none:=by kernel_rfl
theorem anF:ak.H 103=⟨[],[],[],[],[],[],[],[],[],[],[],[]⟩:=by kernel_rfl
theorem anG (vs:List V):ak.bm 103 vs=none:=by kernel_rfl
theorem anH:ak.H 104=⟨[9,11,15,43,56,65,71,82,88],[],[⟨0,[1,2,3,8,11,12,13,14],[4,8,13,22]⟩,⟨2,[1,2,3,8,11,12,13,14,15,33],[4,8,13,22]⟩],[77],[(21,[0,2,3,4,5,6,7,1,8,9,10,11])],[],[],[77],[],[],[],[]⟩:=by kernel_rfl
theorem anI (vs:List V):ak.bm 104 vs=none:=by kernel_rfl
theorem anJ:ak.H 105=⟨[3],[],[],[],[],[],[],[],[],[],[],[]⟩:=by kernel_rfl
theorem anK (vs:List V):ak.bm 105 vs=none:=by kernel_rfl
theorem anL:ak.H 106=⟨[],[],[⟨0,[1,8,9,10],[2]⟩],[],[],[],[],[],[],[],[],[]⟩:=by kernel_rfl
theorem anM (vs:List V):ak.bm 106 vs=none:=by kernel_rfl
theorem anN:ak.H 107=⟨[],[],[],[24],[],[],[],[24],[],[],[],[]⟩:=by kernel_rfl
theorem anO (vs:List V):ak.bm 107 vs=none:=by kernel_rfl
theorem anP:ak.H 108=⟨[6,31],[],[⟨0,[1,2,7,11,12,13],[3]⟩],[],[],[],[],[],[],[],[],[]⟩:=by kernel_rfl
theorem anQ (vs:List V):ak.bm 108 vs=none:=by kernel_rfl
theorem anR:ak.H 109=⟨[3],[],[],[],[],[],[],[],[],[],[],[]⟩:=by kernel_rfl
theorem anS (vs:List V):ak.bm 109 vs=none:=by kernel_rfl
theorem anT:ak.H 110=⟨[],[],[],[],[],[],[],[],[],[],[],[]⟩:=by kernel_rfl
theorem anU (vs:List V):ak.bm 110 vs=none:=by kernel_rfl
theorem anV:ak.H 111=⟨[2,59],[14,34],[⟨0,[1,3,4,5],[1,14]⟩,⟨2,[1,3,4,6],[1]⟩,⟨4,[1,3,4,6,7,8],[1,34]⟩,⟨6,[1,3,4,6,7,8,9],[1,34]⟩],[],[],[],[],[],[],[],[],[]⟩:=by kernel_rfl
theorem anW (vs:List V):ak.bm 111 vs=none:=by kernel_rfl
theorem anX:ak.H 112=⟨[4,8,12],[],[],[],[],[],[],[],[],[],[],[]⟩:=by kernel_rfl
theorem anY (vs:List V):ak.bm 112 vs=none:=by kernel_rfl
theorem anZ:ak.H 113=⟨[4,26],[],[⟨0,[1,2,5],[2]⟩],[],[],[],[],[],[],[],[],[]⟩:=by kernel_rfl
theorem an0 (vs:List V):ak.bm 113 vs=none:=by kernel_rfl
theorem an1:ak.H 114=⟨[2],[],[⟨0,[1,3,4],[1]⟩],[],[],[],[],[],[],[],[],[]⟩:=by kernel_rfl
theorem an2 (vs:List V):ak.bm 114 vs=none:=by kernel_rfl
theorem an3:ak.H 115=⟨[2],[],[⟨0,[1,3],[1]⟩],[],[],[],[],[],[],[],[],[]⟩:=by kernel_rfl
theorem an4 (vs:List V):ak.bm 115 vs=none:=by kernel_rfl
theorem an5:ak.H 116=⟨[],[],[],[],[],[],[],[],[],[],[],[]⟩:=by kernel_rfl
theorem an6 (vs:List V):ak.bm 116 vs=none:=by kernel_rfl
theorem an7:ak.H 117=⟨[3,4,7,52,56,67,86,91,97],[],[⟨0,[1,2,4,5,6],[1,2,5]⟩,⟨2,[1,2,4,5,6,7,8],[1,2,5]⟩],[],[(20,[0,2,3,4,5,6,7,8,9,10,11,12,13,1,14,15,16,17,18,19])],[],[],[],[],[],[],[]⟩:=by kernel_rfl
theorem an8 (vs:List V):ak.bm 117 vs=none:=by kernel_rfl
theorem an9:ak.H 118=⟨[5,7,10,80,84,95,107,112,118],[],[⟨0,[2,3,4,7,8,9],[2,3,4,6,8]⟩,⟨2,[2,3,4,7,8,9,10,11],[2,3,4,6,8]⟩],[],[(23,[0,2,3,4,5,6,7,1,8,9,10,11,12])],[],[],[],[],[],[],[]⟩:=by kernel_rfl
theorem aoa (vs:List V):ak.bm 118 vs=none:=by kernel_rfl
theorem aob:ak.H 119=⟨[4],[],[],[],[],[],[],[],[],[],[],[]⟩:=by kernel_rfl
theorem aoc (vs:List V):ak.bm 119 vs=none:=by kernel_rfl
theorem aod:ak.H 120=⟨[8,50],[],[⟨0,[1,2,3,4,9,10],[4]⟩],[],[],[],[],[],[],[],[],[]⟩:=by kernel_rfl
theorem aoe (vs:List V):ak.bm 120 vs=none:=by kernel_rfl
theorem aof:ak.H 121=⟨[4,8,9],[],[],[],[],[],[],[],[],[],[],[]⟩:=by kernel_rfl
theorem aog (vs:List V):ak.bm 121 vs=none:=by kernel_rfl
theorem aoh:ak.H 122=⟨[],[],[],[],[],[],[],[],[],[],[],[]⟩:=by kernel_rfl
theorem aoi (vs:List V):ak.bm 122 vs=none:=by kernel_rfl
theorem aoj:ak.H 123=⟨[6,34,39,44,53],[],[⟨0,[0,2,3,4,5],[2,3]⟩,⟨2,[0,2,3,4,5,6,7],[2,3]⟩],[],[],[],[],[],[],[],[],[]⟩:=by kernel_rfl
theorem aok (vs:List V):ak.bm 123 vs=none:=by kernel_rfl
theorem aol:ak.H 124=⟨[6,29],[],[⟨0,[1,2,3,7,8],[3]⟩],[],[],[],[7],[],[],[],[],[]⟩:=by kernel_rfl
theorem aom (vs:List V):ak.bm 124 vs=none:=by kernel_rfl
theorem aon:ak.H 125=⟨[],[],[⟨0,[1,2,5],[2]⟩],[],[],[],[],[],[],[],[],[]⟩:=by kernel_rfl
theorem aoo (vs:List V):ak.bm 125 vs=none:=by kernel_rfl
theorem aop:ak.H 126=⟨[4,6,33,39,43],[],[⟨0,[0,1,5],[]⟩],[],[],[],[4],[],[],[],[],[]⟩:=by kernel_rfl
theorem aoq (vs:List V):ak.bm 126 vs=none:=by kernel_rfl
theorem aor:ak.H 127=⟨[4,40],[],[⟨0,[0,3,5],[3]⟩],[],[],[],[],[],[],[],[],[]⟩:=by kernel_rfl
theorem aos (vs:List V):ak.bm 127 vs=none:=by kernel_rfl
attribute [go_sem] EP ar n2 aP ar1 bf lZ b4 F2 dh o7 cH o8 gk o9 uK akF akG akH akI akJ akK akL akM akN akO akP akQ akR akS akT akU akV akW akX akY akZ ak0 ak1 ak2 ak3 ak4 ak5 ak6 ak7 ak8 ak9 ala alb alc ald ale alf alg alh ali alj alk alm aln alo alp alq alr als alu alv alw alx aly alz alA alB alC alD alE alF alG alH alI alJ alK alL alM alN alO alP alQ alR alS alT FZ alU alV alW alX alY alZ al0 al1 al2 al3 al4 al5 al6 al7 al8 al9 ama amb amc amd ame amf amg amh ami amj amk aml amm amn amo amp amq amr ams amt amu amv amw amx amy amz KS amA amB amC amD amE amF amG amH amI amJ amK amL amM amN amO amP amQ amR amS amT amU amV amW amX amY amZ am0 am1 am2 am3 am4 am5 am6 am7 am8 am9 ana anb anc ane anf ang anh ani anj ank anl anm ann ano anp anq anr ans ant KR anu anv anw anx anz anA anB anC anD anE anF anG anH anI anJ anK anL anM anN anO anP anQ anR anS anT anU anV anW anX anY anZ an0 an1 an2 an3 an4 an5 an6 an7 an8 an9 aoa aob aoc aod aoe aof aog aoh aoi aoj aok aol aom aon aoo aop aoq aor aos
end Go.aB
namespace Go.aB
open Go Go.Proofs
set_option maxRecDepth 10000
theorem aot (l:List Int) (ai:l.length≤9223372036854775806) (p:Int→Bool) (g:Nat) (a:Nat) (os:List (Nat→Option ax)) (aj:os.length≠0) (arM:∀x∈l,∀cw:Nat→Option ax,run ak g (I x::[.ptr 0 a 0]) (cw::os)=some (.bool (p x),cw::os)) (hu:(ak.H g).uniq=[]:=by kernel_rfl):run ak 101 [.slc false 1 (l.map I),.fn g [.ptr 0 a 0]] os=some (.int .i64 (fv p l 0),os):=by
 have pg:(0 != os.length)=true:=by simp;omega
 rw[run_eq ak 101 _ _ Tryz.func101 (by decide+kernel) rfl (show 2≤_ by decide)]
 dsimp only[Tryz.f101]
 simp only[go_sem,aj,pg,hu,Bool.not_false,Bool.true_or,Bool.and_self]
 refine cz (fun i:Nat=>i≤l.length) (fun i=>{t:=ae (ae (ae (ae bH 8 (.int .i64 i)) 7 (.int .i64 l.length)) 1 (.fn g [.ptr 0 a 0])) 0 (.slc false 1 (l.map I)),b:=bk,o:=os,r:=#[ResultVar.tmp 4],f:=101,n:=19}) (fun i=>some (.int .i64 (fv p (l.drop i) i),os)) (fun i=>l.length-i) ?_ 0 (Nat.zero_le _)
 intro i hi ag
 by_cases h:i<l.length
 ·have J:(i:Int)<l.length:=by omega
  have w:=cr (n:=i) (by omega)
  have U:=arM l[i] (List.getElem_mem h) bk
  rw[List.drop_eq_getElem_cons h,fv]
  generalize p l[i]=q at U⊢
  try simp only[aU.dv,ff.enc,cD.enc,kg.enc,qg.enc,bQ.enc,sZ.enc,s0.enc,Prog.enc,vg.enc,hV.enc,Mon.enc,qh.enc,nu.enc,vf.enc,eQ.enc,eE,I,B]at U
  simp only[go_sem,J,w,getD_map h,aj,pg,hu,U]
  cases q
  ·simp only[go_sem,w,aj,pg,hu,Bool.false_eq_true,if_false]
   exact ag (i+1) (by omega) (by omega)
  ·simp only[go_sem,if_true]
 ·have J:¬(i:Int)<l.length:=by omega
  rw[List.drop_eq_nil_of_le (by omega)]
  simp only[go_sem,J,fv]
theorem aou (l:List Int) (ai:l.length≤9223372036854775806) (p:Int→Bool) (g:Nat) (a:Nat) (os:List (Nat→Option ax)) (aj:os.length≠0) (arM:∀x∈l,∀cw bU:Nat→Option ax,run ak g (I x::[.ptr 0 a 0]) (cw::bU::os)=some (.bool (p x),cw::bU::os)) (hu:(ak.H g).uniq=[]:=by kernel_rfl):run ak 81 [.slc false 1 (l.map I),.fn g [.ptr 0 a 0]] os=some (.bool (l.any p),os):=by
 have hi:=aot l ai p g a (bk::os) (by simp) (fun x U cw=>arM x U cw bk) hu
 rw[run_eq ak 81 _ _ Tryz.func81 (by decide+kernel) rfl (show 2≤_ by decide)]
 dsimp only[Tryz.f81]
 simp only[go_sem,aj,hu,hi,Bool.not_false,Bool.true_or,Bool.and_self]
 rw[←Dy p l 0]
theorem aov (l:List (List Int)) (ai:l.length≤9223372036854775806) (p:(List Int)→Bool) (g:Nat) (a:Nat) (os:List (Nat→Option ax)) (aj:os.length≠0) (arM:∀x∈l,∀cw:Nat→Option ax,run ak g (eE x::[.ptr 0 a 0]) (cw::os)=some (.bool (p x),cw::os)) (hu:(ak.H g).uniq=[]:=by kernel_rfl):run ak 100 [.slc false 1 (l.map eE),.fn g [.ptr 0 a 0]] os=some (.int .i64 (fv p l 0),os):=by
 have pg:(0 != os.length)=true:=by simp;omega
 rw[run_eq ak 100 _ _ Tryz.func100 (by decide+kernel) rfl (show 2≤_ by decide)]
 dsimp only[Tryz.f100]
 simp only[go_sem,aj,pg,hu,Bool.not_false,Bool.true_or,Bool.and_self]
 refine cz (fun i:Nat=>i≤l.length) (fun i=>{t:=ae (ae (ae (ae bH 8 (.int .i64 i)) 7 (.int .i64 l.length)) 1 (.fn g [.ptr 0 a 0])) 0 (.slc false 1 (l.map eE)),b:=bk,o:=os,r:=#[ResultVar.tmp 4],f:=100,n:=19}) (fun i=>some (.int .i64 (fv p (l.drop i) i),os)) (fun i=>l.length-i) ?_ 0 (Nat.zero_le _)
 intro i hi ag
 by_cases h:i<l.length
 ·have J:(i:Int)<l.length:=by omega
  have w:=cr (n:=i) (by omega)
  have U:=arM l[i] (List.getElem_mem h) bk
  rw[List.drop_eq_getElem_cons h,fv]
  generalize p l[i]=q at U⊢
  try simp only[aU.dv,ff.enc,cD.enc,kg.enc,qg.enc,bQ.enc,sZ.enc,s0.enc,Prog.enc,vg.enc,hV.enc,Mon.enc,qh.enc,nu.enc,vf.enc,eQ.enc,eE,I,B]at U
  simp only[go_sem,J,w,getD_map h,aj,pg,hu,U]
  cases q
  ·simp only[go_sem,w,aj,pg,hu,Bool.false_eq_true,if_false]
   exact ag (i+1) (by omega) (by omega)
  ·simp only[go_sem,if_true]
 ·have J:¬(i:Int)<l.length:=by omega
  rw[List.drop_eq_nil_of_le (by omega)]
  simp only[go_sem,J,fv]
theorem aow (l:List (List Int)) (ai:l.length≤9223372036854775806) (p:(List Int)→Bool) (g:Nat) (a:Nat) (os:List (Nat→Option ax)) (aj:os.length≠0) (arM:∀x∈l,∀cw bU:Nat→Option ax,run ak g (eE x::[.ptr 0 a 0]) (cw::bU::os)=some (.bool (p x),cw::bU::os)) (hu:(ak.H g).uniq=[]:=by kernel_rfl):run ak 79 [.slc false 1 (l.map eE),.fn g [.ptr 0 a 0]] os=some (.bool (l.any p),os):=by
 have hi:=aov l ai p g a (bk::os) (by simp) (fun x U cw=>arM x U cw bk) hu
 rw[run_eq ak 79 _ _ Tryz.func79 (by decide+kernel) rfl (show 2≤_ by decide)]
 dsimp only[Tryz.f79]
 simp only[go_sem,aj,hu,hi,Bool.not_false,Bool.true_or,Bool.and_self]
 rw[←Dy p l 0]
theorem aox (l:List bQ) (ai:l.length≤9223372036854775806) (p:bQ→Bool) (g:Nat) (av:∀vs,ak.bm g vs=none) (arM:∀x∈l,run ak g [bQ.enc x] []=some (.bool (p x),[])) (hu:(ak.H g).uniq=[]:=by kernel_rfl):run ak 72 [.slc false 8 (l.map bQ.enc),.fn g []] []=some (.int .i64 (fv p l 0),[]):=by
 rw[run_eq ak 72 _ _ Tryz.func72 (by decide+kernel) rfl (show 2≤_ by decide)]
 dsimp only[Tryz.f72]
 simp only[go_sem,av,hu,Bool.not_false,Bool.true_or,Bool.and_self]
 refine cz (fun i:Nat=>i≤l.length) (fun i=>{t:=ae (ae (ae (ae bH 8 (.int .i64 i)) 7 (.int .i64 l.length)) 1 (.fn g [])) 0 (.slc false 8 (l.map bQ.enc)),b:=bk,o:=[],r:=#[ResultVar.tmp 4],f:=72,n:=19}) (fun i=>some (.int .i64 (fv p (l.drop i) i),[])) (fun i=>l.length-i) ?_ 0 (Nat.zero_le _)
 intro i hi ag
 by_cases h:i<l.length
 ·have J:(i:Int)<l.length:=by omega
  have w:=cr (n:=i) (by omega)
  have U:=arM l[i] (List.getElem_mem h)
  rw[List.drop_eq_getElem_cons h,fv]
  generalize p l[i]=q at U⊢
  try simp only[aU.dv,ff.enc,cD.enc,kg.enc,qg.enc,bQ.enc,sZ.enc,s0.enc,Prog.enc,vg.enc,hV.enc,Mon.enc,qh.enc,nu.enc,vf.enc,eQ.enc,eE,I,B]at U
  simp only[go_sem,J,w,getD_map h,av,hu,U]
  cases q
  ·simp only[go_sem,w,av,hu,Bool.false_eq_true,if_false]
   exact ag (i+1) (by omega) (by omega)
  ·simp only[go_sem,if_true]
 ·have J:¬(i:Int)<l.length:=by omega
  rw[List.drop_eq_nil_of_le (by omega)]
  simp only[go_sem,J,fv]
theorem aoy (l:List bQ) (ai:l.length≤9223372036854775806) (p:bQ→Bool) (g:Nat) (av:∀vs,ak.bm g vs=none) (arM:∀x∈l,run ak g [bQ.enc x] []=some (.bool (p x),[])) (hu:(ak.H g).uniq=[]:=by kernel_rfl):run ak 39 [.slc false 8 (l.map bQ.enc),.fn g []] []=some (.bool (l.any p),[]):=by
 have hi:=aox l ai p g av arM hu
 rw[run_eq ak 39 _ _ Tryz.func39 (by decide+kernel) rfl (show 2≤_ by decide)]
 dsimp only[Tryz.f39]
 simp only[go_sem,av,hu,hi,Bool.not_false,Bool.true_or,Bool.and_self]
 rw[←Dy p l 0]
end Go.aB
namespace Go.aB
open Go Go.Proofs
set_option maxRecDepth 10000
theorem EB (c:Int) (h:0≤c) (aZ:c<256):run ak 70 [.int .u8 c] []=some (.int .i64 (iD c),[]):=by
 rw[run_eq ak 70 _ _ Tryz.func70 (by decide+kernel) rfl (show 1≤_ by decide)]
 dsimp only[Tryz.f70]
 simp only[go_sem,KR,TU c h aZ]
theorem A4 (c:Int):run ak 31 [.int .u8 c] []=some (.int .i64 (iD c),[]):=by
 rw[run_eq ak 31 _ _ Tryz.func31 (by decide+kernel) rfl (show 1≤_ by decide)]
 dsimp only[Tryz.f31]
 have cw:bC ⟨#[97,98,99]⟩ 0=97:=by decide+kernel
 have bU:bC ⟨#[97,98,99]⟩ 1=98:=by decide+kernel
 have cv:bC ⟨#[97,98,99]⟩ 2=99:=by decide+kernel
 have aD:ByteArray.size ⟨#[97,98,99]⟩=3:=by decide
 simp only[go_sem,iter_eq,cw,aD]
 refine Ae (fun k=>?_) (fun k=>?_)
 ·have e:c=97:=by have:=eq_of_beq k;omega
  subst e
  simp only[go_sem,iD]
 ·have e:¬c=97:=by intro e;subst e;cases k
  simp only[go_sem,iter_eq,bU,aD]
  refine Ae (fun k=>?_) (fun k=>?_)
  ·have cc:c=98:=by have:=eq_of_beq k;omega
   subst cc
   simp only[go_sem,iD]
  ·have cc:¬c=98:=by intro e;subst e;cases k
   simp only[go_sem,iter_eq,cv,aD]
   refine Ae (fun k=>?_) (fun k=>?_)
   ·have EC:c=99:=by have:=eq_of_beq k;omega
    subst EC
    simp only[go_sem,iD]
   ·have EC:¬c=99:=by intro e;subst e;cases k
    simp only[go_sem,iter_eq,iD,e,cc,EC]
theorem vQ (a b c:Int):run ak 66 [.int .i64 a,.int .i64 b,.int .i64 c] []=some (.bool (decide (b≤a)&&decide (a≤c)),[]):=by
 rw[run_eq ak 66 _ _ Tryz.func66 (by decide+kernel) rfl (show 3≤_ by decide)]
 dsimp only[Tryz.f66]
 simp only[go_sem]
 refine py (fun k=>?_) (fun k=>?_)<;>simp only[go_sem,k,ge_iff_le,Bool.true_and,Bool.false_and]at k⊢<;>simp only[go_sem,k,Bool.true_and,Bool.false_and]
theorem A5 (a b c:Int):run ak 65 [.int .i64 a,.int .i64 b,.int .i64 c] []=some (.bool (decide (b≤a)&&decide (a≤c)),[]):=by
 rw[run_eq ak 65 _ _ Tryz.func65 (by decide+kernel) rfl (show 3≤_ by decide)]
 dsimp only[Tryz.f65]
 simp only[go_sem]
 refine py (fun k=>?_) (fun k=>?_)<;>simp only[go_sem,k,ge_iff_le,Bool.true_and,Bool.false_and]at k⊢<;>simp only[go_sem,k,Bool.true_and,Bool.false_and]
end Go.aB
namespace Go.aB
open Go Go.Proofs
set_option maxRecDepth 10000
theorem aoz (q n:Int) (a:Nat) (os:List (Nat→Option ax)) (aj:os.length≠0) (cq:bV a 0 os=some (.box [.int .i64 n])) (bn:0≤n) (J:n≤1048576):run ak 82 [.int .i64 q,.ptr 0 a 0] os=some (.bool (!(decide (0≤q)&&decide (q≤n-1))),os):=by
 have w:=hC (n:=n-1) (by omega) (by omega)
 have f:=A5 q 0 (n-1)
 have dA:¬0=os.length:=fun e=>aj e.symm
 rw[run_eq ak 82 _ _ Tryz.func82 (by decide+kernel) rfl (show 2≤_ by decide)]
 dsimp only[Tryz.f82]
 simp only[go_sem,dA,cq,w,f]
theorem aoA (row:List Int) (ai:row.length≤1048576) (n:Int) (a:Nat) (os:List (Nat→Option ax)) (aj:os.length≠0) (cq:bV a 0 os=some (.box [.int .i64 n])) (bn:0≤n) (J:n≤1048576):run ak 80 [eE row,.ptr 0 a 0] os=some (.bool (!oA n row),os):=by
 have f:=aou row (by omega) (fun q=>!(decide (0≤q)&&decide (q≤n-1))) 82 a (bk::os) (by simp) (fun x _ cw bU=>aoz x n a _ (by simp) (by rw[k7 (by simp),k7 (by simp),k7 aj];exact cq) bn J)
 rw[Iw]at f
 rw[run_eq ak 80 _ _ Tryz.func80 (by decide+kernel) rfl (show 2≤_ by decide)]
 dsimp only[Tryz.f80]
 unfold oA
 cases k:((row.length:Int)==3)
 ·simp only[go_sem,bne,k,Bool.not_false,Bool.false_and]
 ·simp only[go_sem,bne,k,f,Bool.not_true,Bool.not_false,Bool.true_and]
theorem vR (d:eQ) (J:d.accept.length≤1048576) (aa:d.next.length≤1048576) (ar:∀r∈d.next,r.length≤1048576):run ak 47 [d.enc] []=some (.bool (iR d),[]):=by
 have b1:=A5 d.accept.length 1 40
 rw[run_eq ak 47 _ _ Tryz.func47 (by decide+kernel) rfl (show 1≤_ by decide)]
 dsimp only[Tryz.f47]
 unfold iR
 cases aq:(decide (1≤(d.accept.length:Int))&&decide ((d.accept.length:Int)≤40))
 ·rw[aq]at b1
  simp only[go_sem,b1,Bool.not_false,Bool.false_and]
 rw[aq]at b1
 cases aF:((d.next.length:Int)==d.accept.length)
 ·simp only[go_sem,b1,bne,aF,Bool.not_true,Bool.not_false,Bool.true_and,Bool.false_and]
 have f:=fun(b:Nat→Option ax) (ad:b 3=some (.box [.int .i64 (d.accept.length:Int)]))=>aow d.next (by omega) (fun row=>!oA d.accept.length row) 80 3 [b] (by simp) (fun x U cw bU=>aoA x (ar x U) d.accept.length 3 _ (by simp) ad (by omega) (by omega))
 simp only[Iw]at f
 simp only[go_sem,b1,bne,aF,Bool.not_true,Bool.not_false,Bool.true_and]
 rw[f _ rfl]
 simp only[go_sem,Bool.not_not]
end Go.aB
namespace Go.aB
open Go Go.Proofs
set_option maxRecDepth 10000
theorem yl (d:eQ) (J:d.accept.length≤1048576) (aa:d.next.length≤1048576) (ar:∀r∈d.next,r.length≤1048576):run ak 90 [d.enc] []=some (.bool (iR d),[]):=by
 have b1:=vQ d.accept.length 1 40
 rw[run_eq ak 90 _ _ Tryz.func90 (by decide+kernel) rfl (show 1≤_ by decide)]
 dsimp only[Tryz.f90]
 unfold iR
 cases aq:(decide (1≤(d.accept.length:Int))&&decide ((d.accept.length:Int)≤40))
 ·rw[aq]at b1
  simp only[go_sem,b1,Bool.not_false,Bool.false_and]
 rw[aq]at b1
 cases aF:((d.next.length:Int)==d.accept.length)
 ·simp only[go_sem,b1,bne,aF,Bool.not_true,Bool.not_false,Bool.true_and,Bool.false_and]
 simp only[go_sem,b1,bne,aF,Bool.not_true,Bool.not_false,Bool.true_and]
 have aC:d.next.length=d.accept.length:=by have:=eq_of_beq aF;omega
 have arZ:1≤d.accept.length:=by
  have:=(Bool.and_eq_true_iff.1 aq).1
  have:=of_decide_eq_true this
  omega
 have cT:IntKind.i64.wrap ((d.accept.length:Int)-1)=(d.accept.length:Int)-1:=hC (by omega) (by omega)
 refine cz (fun i:Nat=>i≤d.next.length) (fun i=>{t:=ae (ae (ae bH 4 (.int .i64 i)) 3 (.int .i64 d.accept.length)) 1 (.ptr 0 1 0),b:=ae bk 1 (some (ax.box [.slc false 1 (d.accept.map B),.slc false 1 (d.next.map eE)])),o:=[],r:=#[ResultVar.tmp 2],f:=90,n:=53}) (fun i=>some (.bool ((d.next.drop i).all (oA d.accept.length)),[])) (fun i=>d.next.length-i) ?_ 0 (Nat.zero_le _)
 intro i hi ag
 by_cases h:i<d.next.length
 rotate_left
 ·have aq:¬(i:Int)<d.accept.length:=by omega
  rw[List.drop_eq_nil_of_le (by omega)]
  simp only[go_sem,aq,List.all_nil]
 have lz:(i:Int)<d.accept.length:=by omega
 have ym:(i:Int)<d.next.length:=by omega
 have w:=cr (n:=i) (by omega)
 have aI:=ar d.next[i] (List.getElem_mem h)
 rw[List.drop_eq_getElem_cons h,List.all_cons]
 have a1:=ag (i+1) (by omega) (by omega)
 clear ag
 generalize rH:d.next[i]=row at aI⊢
 have mU:∀dd:V,(d.next.map eE).getD i dd=eE row:=fun dd=>by rw[getD_map h,rH]
 unfold oA
 cases aW:((row.length:Int)==3)
 ·simp only[go_sem,lz,ym,mU,bne,aW,Bool.not_false,Bool.false_and]
 simp only[go_sem,lz,ym,mU,bne,aW,Bool.not_true,Bool.true_and]
 refine cz (fun j:Nat=>j≤row.length) (fun j=>{t:=ae (ae (ae (ae bH 5 (.int .i64 j)) 4 (.int .i64 i)) 3 (.int .i64 d.accept.length)) 1 (.ptr 0 1 0),b:=ae bk 1 (some (ax.box [.slc false 1 (d.accept.map B),.slc false 1 (d.next.map eE)])),o:=[],r:=#[ResultVar.tmp 2],f:=90,n:=53}) (fun j=>some (.bool ((row.drop j).all (fun q=>decide (0≤q)&&decide (q≤(d.accept.length:Int)-1))&&(d.next.drop (i+1)).all (oA d.accept.length)),[])) (fun j=>row.length-j) ?_ 0 (Nat.zero_le _)
 intro j au iN
 by_cases ny:j<row.length
 ·have k2:(j:Int)<row.length:=by omega
  have fX:=cr (n:=j) (by omega)
  rw[List.drop_eq_getElem_cons ny,List.all_cons]
  have f:=vQ row[j] 0 ((d.accept.length:Int)-1)
  generalize aE:row[j]=q at f⊢
  have KT:∀dd:V,(row.map I).getD j dd=I q:=fun dd=>by rw[getD_map ny,aE]
  cases c:(decide (0≤q)&&decide (q≤(d.accept.length:Int)-1))
  ·rw[c]at f
   simp only[go_sem,ym,mU,KT,k2,cT,f,Bool.not_false,Bool.false_and]
  ·rw[c]at f
   simp only[go_sem,ym,mU,KT,k2,cT,fX,f,Bool.not_true,Bool.true_and]
   exact iN (j+1) (by omega) (by omega)
 ·have k2:¬(j:Int)<row.length:=by omega
  rw[List.drop_eq_nil_of_le (by omega),List.all_nil,Bool.true_and]
  simp only[go_sem,lz,ym,mU,k2,w]
  exact a1
theorem tu (l:List Int) (ai:l.length≤1048576) (n:Int):run ak 94 [.slc false 1 (l.map I),.int .i64 n] []=some (.int .i64 (fv (fun x=>x==n) l 0),[]):=by
 rw[run_eq ak 94 _ _ Tryz.func94 (by decide+kernel) rfl (show 2≤_ by decide)]
 dsimp only[Tryz.f94]
 simp only[go_sem]
 refine cz (fun i:Nat=>i≤l.length) (fun i=>{t:=ae (ae (ae bH 5 (.int .i64 i)) 1 (.int .i64 n)) 0 (.slc false 1 (l.map I)),b:=bk,o:=[],r:=#[ResultVar.tmp 4],f:=94,n:=19}) (fun i=>some (.int .i64 (fv (fun x=>x==n) (l.drop i) i),[])) (fun i=>l.length-i) ?_ 0 (Nat.zero_le _)
 intro i hi ag
 by_cases h:i<l.length
 ·have J:(i:Int)<l.length:=by omega
  have w:=cr (n:=i) (by omega)
  rw[List.drop_eq_getElem_cons h,fv]
  cases c:(l[i]==n)
  ·simp only[go_sem,J,w,getD_map h,c,Bool.false_eq_true,if_false]
   exact ag (i+1) (by omega) (by omega)
  ·simp only[go_sem,J,w,getD_map h,c,if_true]
 ·have J:¬(i:Int)<l.length:=by omega
  rw[List.drop_eq_nil_of_le (by omega)]
  simp only[go_sem,J,fv]
end Go.aB
namespace Go.aB
open Go Go.Proofs
set_option maxRecDepth 10000
theorem aoB (d:ao) (aj:d.ok) (c:List Nat) (ah:c.length=d.accept.length) (p q:Nat) (arM:p<c.length) (aE:q<c.length) (aC:c.length≤1048576):run ak 120 [d.enc,.slc false 1 (c.map aQ),.int .i64 p,.int .i64 q] []=some (.bool (iE d c p q),[]):=by
 have cB:(p:Int)<c.length:=by omega
 have bt:(q:Int)<c.length:=by omega
 have dJ:(p:Int)<d.next.length:=by rw[aj.1];omega
 have bq:(q:Int)<d.next.length:=by rw[aj.1];omega
 have uO:p<d.next.length:=by rw[aj.1];omega
 have cN:q<d.next.length:=by rw[aj.1];omega
 obtain⟨aT,a2,a3⟩:=ao.ie aj (q:=p) (by omega)
 obtain⟨bU,cv,dn⟩:=ao.ie aj (q:=q) (by omega)
 rw[←ah]at aT a2 a3 bU cv dn
 have aoC:((d.aN p).1:Int)<c.length:=by omega
 have aoD:((d.aN p).2.1:Int)<c.length:=by omega
 have aoE:((d.aN p).2.2:Int)<c.length:=by omega
 have aoF:((d.aN q).1:Int)<c.length:=by omega
 have aoG:((d.aN q).2.1:Int)<c.length:=by omega
 have zC:((d.aN q).2.2:Int)<c.length:=by omega
 rw[run_eq ak 120 _ _ Tryz.func120 (by decide+kernel) rfl (show 4≤_ by decide)]
 dsimp only[Tryz.f120]
 simp only[go_sem]
 rw[arO]
 rotate_left
 ·kernel_rfl
 simp only[go_sem,cB,bt,iF arM,iF aE,kh]
 unfold iE
 generalize (ba c p==ba c q)=bE
 simp only[iter_eq,go_sem]
 rw[arO]
 rotate_left
 ·kernel_rfl
 have step:∀(x y:Nat) (bE:Bool),V.ite bE (.bool bE) (.bool false)=.bool bE:=by intro _ _ bE;cases bE<;>rfl
 cases bE
 ·simp only[go_sem,iter_eq,Bool.false_and]
  rw[arO]
  rotate_left
  ·kernel_rfl
  simp only[go_sem,iter_eq]
  rw[arO]
  rotate_left
  ·kernel_rfl
  simp only[go_sem,iter_eq]
 simp only[go_sem,iter_eq,dJ,bq,hW uO,hW cN,aoC,aoF,iF aT,iF bU,kh,Bool.true_and]
 rw[arO]
 rotate_left
 ·kernel_rfl
 cases aq:(ba c (d.aN p).1==ba c (d.aN q).1)
 ·simp only[go_sem,iter_eq,Bool.false_and]
  rw[arO]
  rotate_left
  ·kernel_rfl
  simp only[go_sem,iter_eq]
 simp only[go_sem,iter_eq,dJ,bq,hW uO,hW cN,aoD,aoG,iF a2,iF cv,kh,Bool.true_and]
 rw[arO]
 rotate_left
 ·kernel_rfl
 cases aF:(ba c (d.aN p).2.1==ba c (d.aN q).2.1)
 ·simp only[go_sem,iter_eq,Bool.false_and]
 simp only[go_sem,iter_eq,dJ,bq,hW uO,hW cN,aoE,zC,iF a3,iF dn,kh,Bool.true_and]
end Go.aB
namespace Go.aB
open Go Go.Proofs
set_option maxRecDepth 10000
theorem aoH (d:ao) (aj:d.ok) (aC:d.accept.length≤1048576):run ak 111 [d.enc] []=some (.slc false 1 ((rounds d (d.accept.length+1) (dW d)).map aQ),[]):=by
 have cH:(d.accept.length:Int)*8≤140737488355328:=by omega
 rw[run_eq ak 111 _ _ Tryz.func111 (by decide+kernel) rfl (show 1≤_ by decide)]
 dsimp only[Tryz.f111]
 simp only[go_sem,cH]
 refine(cz (fun i:Nat=>i≤d.accept.length) (fun i=>{t:=ae (ae (ae (ae bH 5 (.int .i64 i)) 4 (.bS 0 14 d.accept.length)) 3 (.int .i64 d.accept.length)) 1 (.ptr 0 1 0),b:=ae (ae bk 14 (some (ax.arr false 1 (fill s7 d.accept (.int .i64 0) i)))) 1 (some (ax.box [.slc false 1 (d.accept.map B),.slc false 1 (d.next.map bu)])),o:=[],r:=#[ResultVar.tmp 2],f:=111,n:=60}) (fun _=>some (.slc false 1 ((rounds d (d.accept.length+1) (dW d)).map aQ),[])) (fun i=>d.accept.length-i) ?_ 0 (Nat.zero_le _))
 intro i hi ag
 by_cases h:i<d.accept.length
 ·have J:(i:Int)<d.accept.length:=by omega
  have w:=cr (n:=i) (by omega)
  have a1:=ag (i+1) (by omega) (by omega)
  cases ad:d.accept[i]
  ·rw[←Ix _ _ _ h (by rw[ad];rfl)]at a1
   simp only[go_sem,J,w,getD_map h,ad]
   exact a1
  ·rw[←u6 _ _ _ h (.int .i64 1) (by rw[ad];rfl)]at a1
   have ai:=xD s7 d.accept (.int .i64 0) hi
   simp only[go_sem,J,w,getD_map h,ad,ai,h]
   exact a1
 have J:¬(i:Int)<d.accept.length:=by omega
 obtain rfl:i=d.accept.length:=by omega
 clear ag
 have aoI:=xD s7 d.accept (.int .i64 0) (Nat.le_refl _)
 simp only[go_sem,J,aoI,Ad]
 rw[Ue]
 have aoJ:(dW d).length=d.accept.length:=by simp[dW]
 refine(cz (fun x:Nat×List Nat=>x.1≤d.accept.length+1∧x.2.length=d.accept.length) (fun x=>{t:=ae (ae (ae (ae bH 6 (.int .i64 x.1)) 4 (.slc false 1 (x.2.map aQ))) 3 (.int .i64 d.accept.length)) 1 (.ptr 0 1 0),b:=ae bk 1 (some (ax.box [.slc false 1 (d.accept.map B),.slc false 1 (d.next.map bu)])),o:=[],r:=#[ResultVar.tmp 2],f:=111,n:=60}) (fun x=>some (.slc false 1 ((rounds d (d.accept.length+1-x.1) x.2).map aQ),[])) (fun x=>d.accept.length+1-x.1) ?_ (0,dW d) ⟨Nat.zero_le _,aoJ⟩)
 rintro⟨r,c⟩ ⟨aI,ah⟩ ag
 dsimp only at aI ah⊢
 by_cases fo:r≤d.accept.length
 rotate_left
 ·have k:¬(r:Int)≤d.accept.length:=by omega
  have e:d.accept.length+1-r=0:=by omega
  rw[e]
  simp only[go_sem,k,rounds]
 have k:(r:Int)≤d.accept.length:=by omega
 have wr:=cr (n:=r) (by omega)
 have pw:=ag (r+1,refine d c) ⟨by show r+1≤_;omega,DE d c⟩ (by show d.accept.length+1-(r+1)<d.accept.length+1-r;omega)
 clear ag
 have e:d.accept.length+1-r=(d.accept.length+1-(r+1))+1:=by omega
 rw[e,rounds]
 generalize (some (V.slc false 1 ((rounds d (d.accept.length+1-(r+1)) (refine d c)).map aQ),([]:List (Nat→Option ax))))=cO at pw⊢
 have yn:(List.range d.accept.length).length=d.accept.length:=List.length_range
 simp only[go_sem,k,cH]
 have f0:List.replicate d.accept.length (V.int .i64 0)=fill (mK d c) (List.range d.accept.length) (.int .i64 0) 0:=by rw[Dr,yn]
 rw[f0]
 refine cz (fun q:Nat=>q≤d.accept.length) (fun q=>{t:=ae (ae (ae (ae (ae (ae bH 8 (.int .i64 q)) 7 (.bS 0 34 d.accept.length)) 6 (.int .i64 r)) 4 (.slc false 1 (c.map aQ))) 3 (.int .i64 d.accept.length)) 1 (.ptr 0 1 0),b:=ae (ae bk 34 (some (ax.arr false 1 (fill (mK d c) (List.range d.accept.length) (.int .i64 0) q)))) 1 (some (ax.box [.slc false 1 (d.accept.map B),.slc false 1 (d.next.map bu)])),o:=[],r:=#[ResultVar.tmp 2],f:=111,n:=60}) (fun _=>cO) (fun q=>d.accept.length-q) ?_ 0 (Nat.zero_le _)
 intro q aE nG
 have df:=xD (mK d c) (List.range d.accept.length) (.int .i64 0) (i:=q) (by rw[yn];exact aE)
 rw[yn]at df
 by_cases A6:q<d.accept.length
 rotate_left
 ·have bI:¬(q:Int)<d.accept.length:=by omega
  obtain rfl:q=d.accept.length:=by omega
  have fq:=Ad (mK d c) (List.range d.accept.length) (.int .i64 0)
  rw[yn,Ud]at fq
  simp only[go_sem,bI,df,fq,wr,DE]
  exact pw
 have bI:(q:Int)<d.accept.length:=by omega
 have A7:=cr (n:=q) (by omega)
 have a1:=nG (q+1) (by omega) (by omega)
 clear nG
 have l7:∀v,v=mK d c q→(fill (mK d c) (List.range d.accept.length) (.int .i64 0) q).set q v=fill (mK d c) (List.range d.accept.length) (.int .i64 0) (q+1):=fun v arL=>u6 (mK d c) (List.range d.accept.length) (.int .i64 0) (by rw[yn];exact A6) v (by rw[arL];simp)
 simp only[go_sem,bI,df,A6]
 refine cz (fun p:Nat=>p≤q∧qi (fun p=>iE d c p q) q (q-p)=lead d c q) (fun p=>{t:=ae (ae (ae (ae (ae (ae (ae bH 9 (.int .i64 p)) 8 (.int .i64 q)) 7 (.bS 0 34 d.accept.length)) 6 (.int .i64 r)) 4 (.slc false 1 (c.map aQ))) 3 (.int .i64 d.accept.length)) 1 (.ptr 0 1 0),b:=ae (ae bk 34 (some (ax.arr false 1 ((fill (mK d c) (List.range d.accept.length) (.int .i64 0) q).set q (.int .i64 q))))) 1 (some (ax.box [.slc false 1 (d.accept.map B),.slc false 1 (d.next.map bu)])),o:=[],r:=#[ResultVar.tmp 2],f:=111,n:=60}) (fun _=>cO) (fun p=>q-p) ?_ 0 ⟨Nat.zero_le _,rfl⟩
 rintro p ⟨arM,aJ⟩ aoK
 by_cases iU:p<q
 rotate_left
 ·have aF:¬(p:Int)<q:=by omega
  obtain rfl:p=q:=by omega
  rw[Nat.sub_self,Iy]at aJ
  rw[l7 _ (by unfold mK;rw[←aJ];rfl)]
  simp only[go_sem,aF,A7]
  exact a1
 have aF:(p:Int)<q:=by omega
 have wp:=cr (n:=p) (by omega)
 have qq:=aoB d aj c ah p q (by omega) (by omega) (by omega)
 have a7:q-p=(q-(p+1))+1:=by omega
 rw[a7,As]at aJ
 have cj:q-(q-(p+1)+1)=p:=by omega
 rw[cj]at aJ
 simp only[ao.enc]at qq
 cases al:iE d c p q
 ·rw[al]at qq aJ
  simp only[go_sem,aF,qq,wp]
  exact aoK (p+1) ⟨by omega,by simpa using aJ⟩ (by omega)
 ·rw[al,if_pos rfl]at aJ
  rw[al]at qq
  have aoL:q<((fill (mK d c) (List.range d.accept.length) (.int .i64 0) q).set q (.int .i64 q)).length:=by rw[List.length_set,df];exact A6
  simp only[go_sem,bI,aF,qq,aoL,df,A6,List.set_set,A7]
  rw[l7 (.int .i64 p) (by unfold mK;rw[←aJ];rfl)]
  exact a1
end Go.aB
