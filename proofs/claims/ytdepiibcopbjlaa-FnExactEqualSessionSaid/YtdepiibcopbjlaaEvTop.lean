/- A run that comes to an end is a call that comes back. -/
import Derived.Test.YtdepiibcopbjlaaEvWhole
namespace Go.Ev
open Go Go.RowKit
set_option linter.unusedVariables false
variable {E : Env}

theorem done_below {G G' : Gh} {w w' : World} {o : List (Nat → Option Ob)} {v : V} {x : Value} (h : Done 0 { S := G.S, β := fun _ _ => none, ω := fun _ => none } w o v x w' G') : Below w.heap.size w w' :=
  ⟨h.fr.os, h.fr.tape, h.fr.output, h.fr.size, fun k hk => (h.fr.keep k hk (fun p hp => by cases hp)).1⟩
theorem run_calls (hM : E.P.follows .mixedOrders = true) (hO : OrcOk E) {f : Nat} {args : List V} {cargs : Array Value} {w : World} {v : V} {o : List (Nat → Option Ob)} (hrun : run E f args [] = some (v, o)) {S : Nat → Nat → Option Value} (hS : ∀ g j c, S g j = some c → w.cell? ⟨g, j, none⟩ = some c) (hl : args.length = cargs.size)
    (hT : ∀ i, i < args.length → Tr S (fun _ _ => none) (args.getD i .undef) (cargs.getD i Go.undef)) :
    Calls E.P f cargs w fun e w' => ∃ x G', e = .returned x ∧ Done 0 { S := S, β := fun _ _ => none, ω := fun _ => none } w o v x w' G' := by
  unfold run at hrun
  cases h0 : startS E f args [] with
  | none => rw [h0] at hrun; cases hrun
  | some x =>
    obtain ⟨k0, s0⟩ := x
    rw [h0] at hrun
    obtain ⟨n, hn⟩ := lim_iff.1 hrun
    refine (calls_ok (G := { S := S, β := fun _ _ => none, ω := fun _ => none }) (soundN hM hO n) h0 hn hl hT (fun l t ob ho => by cases ho) (fun l t g hg => by cases hg) hS (fun g p hp => by cases hp) (fun l t ob ho => by cases ho)).mono ?_
    rintro e w' ⟨x, G', he, hd, _⟩
    exact ⟨x, G', he, hd⟩
/-- a law that comes to 'true' -/
theorem law_calls (hM : E.P.follows .mixedOrders = true) (hO : OrcOk E) {f : Nat} {args : List V} {cargs : Array Value} {w : World} {o : List (Nat → Option Ob)} (hrun : run E f args [] = some (.bool true, o)) (hl : args.length = cargs.size)
    (hT : ∀ i, i < args.length → Tr (fun g j => w.cell? ⟨g, j, none⟩) (fun _ _ => none) (args.getD i .undef) (cargs.getD i Go.undef)) :
    Calls E.P f cargs w fun e w' => e = .returned (.bool true) ∧ Below w.heap.size w w' := by
  refine (run_calls hM hO hrun (fun _ _ _ h => h) hl hT).mono ?_
  rintro e w' ⟨x, G', rfl, hd⟩
  have := (hd.own fun _ _ => none).bool_inv
  subst this
  exact ⟨rfl, done_below (G := { S := fun g j => w.cell? ⟨g, j, none⟩, β := fun _ _ => none, ω := fun _ => none }) hd⟩
end Go.Ev
