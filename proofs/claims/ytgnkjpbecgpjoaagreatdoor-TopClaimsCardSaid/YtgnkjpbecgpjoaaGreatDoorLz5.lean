/- r4: where a law's heap begins: the package-level variables, of which nothing is told. Conditions: none. -/
import Derived.Test.YtgnkjpbecgpjoaaGreatDoorFwQ
set_option linter.unusedVariables false
set_option linter.unusedSimpArgs false
namespace Go.Proofs.YtgnkjpbecgpjoaaGreatDoor
open Go Go.RowKit Go.Proofs.YtgnkjpbecgpjoaaGreatDoor.Fw
def globL : List (Pl × AObj) := [(⟨0, 0, 1, 0⟩, .dead), (⟨1, 0, 1, 0⟩, .dead), (⟨2, 0, 20, 0⟩, .dead), (⟨3, 0, 1, 0⟩, .dead), (⟨4, 0, 1, 0⟩, .dead), (⟨5, 0, 32, 0⟩, .dead), (⟨6, 0, 64, 0⟩, .dead), (⟨7, 0, 256, 0⟩, .dead), (⟨8, 0, 32, 0⟩, .dead)]
theorem globL_ok {W : World} : ∀ x ∈ globL, x.2.own = false ∧ ∀ ρ, OR ρ W x.1 x.2 := fun x hx => by
  simp only [globL, List.mem_cons, List.not_mem_nil, or_false] at hx
  rcases hx with rfl | rfl | rfl | rfl | rfl | rfl | rfl | rfl | rfl
  all_goals exact ⟨rfl, fun ρ => trivial⟩
theorem globL_glob (L : List (Pl × AObj)) : Glob (ini (globL ++ L)) := fun g hg => by
  have : g < 9 := hg
  match g, this with
  | 0, _ => exact ⟨_, rfl, rfl, rfl, rfl⟩
  | 1, _ => exact ⟨_, rfl, rfl, rfl, rfl⟩
  | 2, _ => exact ⟨_, rfl, rfl, rfl, rfl⟩
  | 3, _ => exact ⟨_, rfl, rfl, rfl, rfl⟩
  | 4, _ => exact ⟨_, rfl, rfl, rfl, rfl⟩
  | 5, _ => exact ⟨_, rfl, rfl, rfl, rfl⟩
  | 6, _ => exact ⟨_, rfl, rfl, rfl, rfl⟩
  | 7, _ => exact ⟨_, rfl, rfl, rfl, rfl⟩
  | 8, _ => exact ⟨_, rfl, rfl, rfl, rfl⟩
end Go.Proofs.YtgnkjpbecgpjoaaGreatDoor
