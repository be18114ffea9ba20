/- The row's facts, in parts: a world that the row speaks of. Conditions: none. -/
import Derived.Test.YtgnkjpbecgpjoaaGreatDoorRows
import Derived.ProofKit
import Derived.OpenShut
import Derived.ChangeOld
import Derived.SizedLaws
import Derived.Handed
import Derived.LaidLaws
import Derived.Lay
import Derived.LaidOnce
import Derived.LaidHandle
import Derived.SevenTiedAt
import Derived.MakeChecks
set_option linter.unusedVariables false
set_option linter.unusedSimpArgs false
namespace Go.Proofs.YtgnkjpbecgpjoaaGreatDoor.topClaims
open Go Go.ChangeShapes Go.WideShapes Go.ChangeAt Go.RowKit
/-- The settled world, the one listed handle laid. -/
noncomputable def base (os : Os) : World :=
  let w0 := World.holding Tryz.prog os ⟨#[], #[], []⟩
  { w0 with heap := w0.heap.modify 0 fun
      | .cells _ t frozen => .cells #[.iface 325 (.agg #[.pointer (some ⟨9, 51, none⟩)])] t frozen
      | o => o }
/-- A world in which the listed variables hold what they are said to. -/
noncomputable def wit (os : Os) : World := (base os).layVars Tryz.prog (Rows.topClaimsRow.laid.filter fun x => x.2.handleName?.isNone)
theorem heap_os (w : World) (h : Array Obj) : ({ w with heap := h }).os = w.os := rfl
theorem wit_os (os : Os) : (wit os).os = os := by
  unfold wit
  rw [World.layVars_os]
  unfold base
  exact heap_os _ _
theorem laidMet_base {P : Program} {w0 : World} {laid : List (String × DataW Unit)} (hf : w0.layFits P laid [] = true) (hi : w0.layIfaces P laid (w0.layVars P laid) = true) (args : Array Value) :
    laidMet P laid ((w0.layVars P laid).forCall (fun _ _ => 0) ⟨#[], args, []⟩).memory := by
  have e1 : (laid.filter fun x => (laid.map (·.1)).contains x.1) = laid := List.filter_eq_self.2 fun x hx => List.contains_iff_mem.2 (List.mem_map.2 ⟨x, hx, rfl⟩)
  have e2 : (laid.filter fun x => !(laid.map (·.1)).contains x.1) = [] := List.filter_eq_nil_iff.2 fun x hx => by rw [List.contains_iff_mem.2 (List.mem_map.2 ⟨x, hx, rfl⟩)]; simp
  have h : laidMet P laid (w0.layVars P laid) := laidMet_layVars (w0 := w0) (laid.map (·.1)) [] (by rw [e1]) (by rw [e1]; exact hf) (by rw [e1]; exact hi) (by rw [e2]; exact LaidIn.none)
  exact h.of_heap (by simp [World.memory, World.forCall, Input.heap])
end Go.Proofs.YtgnkjpbecgpjoaaGreatDoor.topClaims
