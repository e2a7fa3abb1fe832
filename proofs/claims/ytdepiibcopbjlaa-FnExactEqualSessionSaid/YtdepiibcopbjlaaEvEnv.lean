/- What the evaluator is told of the functions, printed by a program. -/
import Derived.Test.YtdepiibcopbjlaaEvTy
namespace Go.Ev
open Go Go.Proofs
def hints : List (Nat × Hint) := [(22, ⟨[], [], [⟨0, [0, 1, 5], []⟩], [], []⟩),
  (25, ⟨[], [7], [⟨0, [0, 3, 4], [7]⟩], [], []⟩),
  (28, ⟨[], [], [⟨0, [0, 1, 5], []⟩], [], []⟩),
  (56, ⟨[], [7], [⟨0, [0, 3, 4], [7]⟩], [], []⟩),
  (60, ⟨[], [], [⟨0, [0, 1, 5], []⟩], [], []⟩),
  (61, ⟨[], [], [⟨0, [0, 1, 5], []⟩], [], []⟩),
  (62, ⟨[], [], [⟨0, [1, 2, 15, 16, 17], []⟩], [], []⟩),
  (84, ⟨[], [], [⟨0, [2, 3, 5], [2, 3]⟩], [], []⟩),
  (86, ⟨[], [], [⟨0, [2, 3, 5], [2, 3]⟩], [], []⟩),
  (92, ⟨[], [], [⟨0, [1, 2, 15, 16, 17], []⟩], [], []⟩),
  (99, ⟨[], [], [⟨0, [0, 1, 5], []⟩], [], []⟩),
  (101, ⟨[], [], [⟨0, [0, 1, 12, 13], []⟩], [], []⟩),
  (112, ⟨[], [], [⟨0, [0, 1, 5], []⟩], [], []⟩),
  (113, ⟨[], [], [⟨0, [0, 1, 5], []⟩], [], []⟩),
  (115, ⟨[], [], [⟨0, [2, 3, 5], [2, 3]⟩], [], []⟩),
  (116, ⟨[], [7], [⟨0, [0, 3, 4], [7]⟩], [], []⟩),
  (117, ⟨[], [7], [⟨0, [0, 3, 4], [7]⟩], [], []⟩),
  (118, ⟨[], [], [⟨0, [1, 2, 15, 16, 17], []⟩], [], []⟩),
  (121, ⟨[], [], [⟨0, [0, 1, 5], []⟩], [], []⟩),
  (122, ⟨[], [], [⟨0, [0, 1, 5], []⟩], [], []⟩),
  (132, ⟨[], [], [⟨0, [1, 2, 15, 16, 17], []⟩], [], []⟩),
  (140, ⟨[], [], [⟨0, [0, 1, 5], []⟩], [], []⟩),
  (141, ⟨[], [7], [⟨0, [0, 3, 4], [7]⟩], [], []⟩),
  (142, ⟨[], [], [⟨0, [0, 1, 5], []⟩], [], []⟩)]
noncomputable def EE : Env := { P := Try.prog, H := fun f => ((hints.find? (·.1 == f)).map (·.2)).getD ⟨[], [], [], [], []⟩, orc := fun _ _ => none }
theorem EP : EE.P = Try.prog := rfl
theorem EO (f : Nat) (a : List V) : EE.orc f a = none := rfl
theorem h10 : EE.H 10 = ⟨[], [], [], [], []⟩ := by kernel_rfl
theorem h13 : EE.H 13 = ⟨[], [], [], [], []⟩ := by kernel_rfl
theorem h15 : EE.H 15 = ⟨[], [], [], [], []⟩ := by kernel_rfl
theorem h21 : EE.H 21 = ⟨[], [], [], [], []⟩ := by kernel_rfl
theorem h22 : EE.H 22 = ⟨[], [], [⟨0, [0, 1, 5], []⟩], [], []⟩ := by kernel_rfl
theorem h23 : EE.H 23 = ⟨[], [], [], [], []⟩ := by kernel_rfl
theorem h25 : EE.H 25 = ⟨[], [7], [⟨0, [0, 3, 4], [7]⟩], [], []⟩ := by kernel_rfl
theorem h26 : EE.H 26 = ⟨[], [], [], [], []⟩ := by kernel_rfl
theorem h28 : EE.H 28 = ⟨[], [], [⟨0, [0, 1, 5], []⟩], [], []⟩ := by kernel_rfl
theorem h29 : EE.H 29 = ⟨[], [], [], [], []⟩ := by kernel_rfl
theorem h36 : EE.H 36 = ⟨[], [], [], [], []⟩ := by kernel_rfl
theorem h39 : EE.H 39 = ⟨[], [], [], [], []⟩ := by kernel_rfl
theorem h42 : EE.H 42 = ⟨[], [], [], [], []⟩ := by kernel_rfl
theorem h43 : EE.H 43 = ⟨[], [], [], [], []⟩ := by kernel_rfl
theorem h44 : EE.H 44 = ⟨[], [], [], [], []⟩ := by kernel_rfl
theorem h45 : EE.H 45 = ⟨[], [], [], [], []⟩ := by kernel_rfl
theorem h46 : EE.H 46 = ⟨[], [], [], [], []⟩ := by kernel_rfl
theorem h54 : EE.H 54 = ⟨[], [], [], [], []⟩ := by kernel_rfl
theorem h55 : EE.H 55 = ⟨[], [], [], [], []⟩ := by kernel_rfl
theorem h56 : EE.H 56 = ⟨[], [7], [⟨0, [0, 3, 4], [7]⟩], [], []⟩ := by kernel_rfl
theorem h59 : EE.H 59 = ⟨[], [], [], [], []⟩ := by kernel_rfl
theorem h60 : EE.H 60 = ⟨[], [], [⟨0, [0, 1, 5], []⟩], [], []⟩ := by kernel_rfl
theorem h61 : EE.H 61 = ⟨[], [], [⟨0, [0, 1, 5], []⟩], [], []⟩ := by kernel_rfl
theorem h62 : EE.H 62 = ⟨[], [], [⟨0, [1, 2, 15, 16, 17], []⟩], [], []⟩ := by kernel_rfl
theorem h63 : EE.H 63 = ⟨[], [], [], [], []⟩ := by kernel_rfl
theorem h81 : EE.H 81 = ⟨[], [], [], [], []⟩ := by kernel_rfl
theorem h82 : EE.H 82 = ⟨[], [], [], [], []⟩ := by kernel_rfl
theorem h83 : EE.H 83 = ⟨[], [], [], [], []⟩ := by kernel_rfl
theorem h84 : EE.H 84 = ⟨[], [], [⟨0, [2, 3, 5], [2, 3]⟩], [], []⟩ := by kernel_rfl
theorem h85 : EE.H 85 = ⟨[], [], [], [], []⟩ := by kernel_rfl
theorem h86 : EE.H 86 = ⟨[], [], [⟨0, [2, 3, 5], [2, 3]⟩], [], []⟩ := by kernel_rfl
theorem h87 : EE.H 87 = ⟨[], [], [], [], []⟩ := by kernel_rfl
theorem h88 : EE.H 88 = ⟨[], [], [], [], []⟩ := by kernel_rfl
theorem h89 : EE.H 89 = ⟨[], [], [], [], []⟩ := by kernel_rfl
theorem h90 : EE.H 90 = ⟨[], [], [], [], []⟩ := by kernel_rfl
theorem h91 : EE.H 91 = ⟨[], [], [], [], []⟩ := by kernel_rfl
theorem h92 : EE.H 92 = ⟨[], [], [⟨0, [1, 2, 15, 16, 17], []⟩], [], []⟩ := by kernel_rfl
theorem h93 : EE.H 93 = ⟨[], [], [], [], []⟩ := by kernel_rfl
theorem h94 : EE.H 94 = ⟨[], [], [], [], []⟩ := by kernel_rfl
theorem h95 : EE.H 95 = ⟨[], [], [], [], []⟩ := by kernel_rfl
theorem h96 : EE.H 96 = ⟨[], [], [], [], []⟩ := by kernel_rfl
theorem h99 : EE.H 99 = ⟨[], [], [⟨0, [0, 1, 5], []⟩], [], []⟩ := by kernel_rfl
theorem h101 : EE.H 101 = ⟨[], [], [⟨0, [0, 1, 12, 13], []⟩], [], []⟩ := by kernel_rfl
theorem h112 : EE.H 112 = ⟨[], [], [⟨0, [0, 1, 5], []⟩], [], []⟩ := by kernel_rfl
theorem h113 : EE.H 113 = ⟨[], [], [⟨0, [0, 1, 5], []⟩], [], []⟩ := by kernel_rfl
theorem h114 : EE.H 114 = ⟨[], [], [], [], []⟩ := by kernel_rfl
theorem h115 : EE.H 115 = ⟨[], [], [⟨0, [2, 3, 5], [2, 3]⟩], [], []⟩ := by kernel_rfl
theorem h116 : EE.H 116 = ⟨[], [7], [⟨0, [0, 3, 4], [7]⟩], [], []⟩ := by kernel_rfl
theorem h117 : EE.H 117 = ⟨[], [7], [⟨0, [0, 3, 4], [7]⟩], [], []⟩ := by kernel_rfl
theorem h118 : EE.H 118 = ⟨[], [], [⟨0, [1, 2, 15, 16, 17], []⟩], [], []⟩ := by kernel_rfl
theorem h119 : EE.H 119 = ⟨[], [], [], [], []⟩ := by kernel_rfl
theorem h120 : EE.H 120 = ⟨[], [], [], [], []⟩ := by kernel_rfl
theorem h121 : EE.H 121 = ⟨[], [], [⟨0, [0, 1, 5], []⟩], [], []⟩ := by kernel_rfl
theorem h122 : EE.H 122 = ⟨[], [], [⟨0, [0, 1, 5], []⟩], [], []⟩ := by kernel_rfl
theorem h128 : EE.H 128 = ⟨[], [], [], [], []⟩ := by kernel_rfl
theorem h129 : EE.H 129 = ⟨[], [], [], [], []⟩ := by kernel_rfl
theorem h130 : EE.H 130 = ⟨[], [], [], [], []⟩ := by kernel_rfl
theorem h131 : EE.H 131 = ⟨[], [], [], [], []⟩ := by kernel_rfl
theorem h132 : EE.H 132 = ⟨[], [], [⟨0, [1, 2, 15, 16, 17], []⟩], [], []⟩ := by kernel_rfl
theorem h133 : EE.H 133 = ⟨[], [], [], [], []⟩ := by kernel_rfl
theorem h134 : EE.H 134 = ⟨[], [], [], [], []⟩ := by kernel_rfl
theorem h136 : EE.H 136 = ⟨[], [], [], [], []⟩ := by kernel_rfl
theorem h137 : EE.H 137 = ⟨[], [], [], [], []⟩ := by kernel_rfl
theorem h138 : EE.H 138 = ⟨[], [], [], [], []⟩ := by kernel_rfl
theorem h140 : EE.H 140 = ⟨[], [], [⟨0, [0, 1, 5], []⟩], [], []⟩ := by kernel_rfl
theorem h141 : EE.H 141 = ⟨[], [7], [⟨0, [0, 3, 4], [7]⟩], [], []⟩ := by kernel_rfl
theorem h142 : EE.H 142 = ⟨[], [], [⟨0, [0, 1, 5], []⟩], [], []⟩ := by kernel_rfl
attribute [go_sem] EP EO h10 h13 h15 h21 h22 h23 h25 h26 h28 h29 h36 h39 h42 h43 h44 h45 h46 h54 h55 h56 h59 h60 h61 h62 h63 h81 h82 h83 h84 h85 h86 h87 h88 h89 h90 h91 h92 h93 h94 h95 h96 h99 h101 h112 h113 h114 h115 h116 h117 h118 h119 h120 h121 h122 h128 h129 h130 h131 h132 h133 h134 h136 h137 h138 h140 h141 h142
end Go.Ev
