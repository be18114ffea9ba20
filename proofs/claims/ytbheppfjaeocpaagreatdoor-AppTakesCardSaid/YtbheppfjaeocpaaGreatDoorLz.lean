/- r2: the package-level variables, as the rows list them; where a law's heap begins. -/
import Derived.Test.YtbheppfjaeocpaaGreatDoorCards
import Derived.Test.YtbheppfjaeocpaaGreatDoorTie
import Derived.Test.YtbheppfjaeocpaaGreatDoorSe4
import Derived.Test.YtbheppfjaeocpaaGreatDoorFwQ
import Derived.Lay
import Derived.Lib.LaidTab
set_option linter.unusedVariables false
set_option linter.unusedSimpArgs false
namespace Go.Proofs.YtbheppfjaeocpaaGreatDoor
open Go Go.RowKit Go.Proofs.YtbheppfjaeocpaaGreatDoor.Fw
theorem laid_reads {P : Program} {w : World} : ∀ {l : List (String × DataW Unit)} {ps : List MemPlace}, DataW.LaidVars P w l ps → ∀ n d, (n, d) ∈ l →
    ∃ g t cs fuel p, P.globalNamed n = some g ∧ (P.globals[g]?).map (·.type) = some t ∧ w.var? P n = some cs ∧ DataW.trod (fun _ => ()) P w 0 (fun _ => true) false fuel t cs.toList = some (d, p)
  | [], _, _, _, _, hm => by cases hm
  | (n', d') :: r, ps, h, n, d, hm => by
    obtain ⟨g, t, cs, fuel, p, q, h1, h2, h3, h4, h5, _⟩ := h
    rcases List.mem_cons.1 hm with e | e
    · cases e
      exact ⟨g, t, cs, fuel, p, h1, h2, h3, h4⟩
    · exact laid_reads h5 n d e
theorem pow_data : (Rows.laid_internal_strconv_uint64pow10 : DataW Unit) = Lib.tabData .u64 Lib.pow10Tab := by kernel_rfl
theorem pow_name : Tryz.prog.globalNamed "internal/strconv.uint64pow10" = some 0 := by kernel_rfl
theorem pow_type : (Tryz.prog.globals[0]?).map (·.type) = some 105 := by kernel_rfl
theorem pow_laid {W : World} {laid : List (String × DataW Unit)} (h : laidMet Tryz.prog laid W) (hm : ("internal/strconv.uint64pow10", Rows.laid_internal_strconv_uint64pow10) ∈ laid) : ∃ el fz, W.heap[0]? = some (.cells powCells.toArray el fz) := by
  obtain ⟨ps, hv, _⟩ := h
  obtain ⟨g, t, cs, fuel, p, hg, ht, hvar, hd⟩ := laid_reads hv _ _ hm
  obtain rfl := Option.some.inj (pow_name.symm.trans hg)
  obtain rfl := Option.some.inj (pow_type.symm.trans ht)
  rw [pow_data] at hd
  have hcs := Lib.cells_of_tab (n := 20) (e := 88) (t := 105) (by kernel_rfl) (by kernel_rfl) (by kernel_rfl) (by kernel_rfl) hd
  unfold World.var? at hvar
  rw [pow_name] at hvar
  simp only [Option.bind_some] at hvar
  split at hvar
  · rename_i c el fz hb
    obtain rfl := Option.some.inj hvar
    refine ⟨el, fz, ?_⟩
    rw [hb]
    congr 2
    exact Array.toList_inj.1 hcs
  · cases hvar
/-- The first blocks: the package-level variables; the powers of ten alone are told. -/
def globL : List (Pl × AObj) := [(⟨0, 0, 20, 0⟩, .cells powCells 0 false), (⟨1, 0, 32, 0⟩, .dead), (⟨2, 0, 64, 0⟩, .dead), (⟨3, 0, 1, 0⟩, .dead), (⟨4, 0, 1, 0⟩, .dead), (⟨5, 0, 1, 0⟩, .dead), (⟨6, 0, 256, 0⟩, .dead), (⟨7, 0, 32, 0⟩, .dead)]
theorem pow_plain : powCells.all plain1 = true := by kernel_rfl
theorem globL_ok {W : World} {el : TypeId} {fz : Nat × Nat} (hw : W.heap[0]? = some (.cells powCells.toArray el fz)) : ∀ x ∈ globL, x.2.own = false ∧ ∀ ρ, OR ρ W x.1 x.2 := fun x hx => by
  simp only [globL, List.mem_cons, List.not_mem_nil, or_false] at hx
  rcases hx with rfl | rfl | rfl | rfl | rfl | rfl | rfl | rfl
  · refine ⟨rfl, fun ρ => ⟨powCells.toArray, el, fz, hw, ?_, ⟨rfl, fun t h => by simp at h⟩, ?_, fun i v hv => ?_, fun h => by cases h⟩⟩
    · simp [powCells, Lib.pow10Tab_length]
    · simp
    · have hp := List.all_eq_true.1 pow_plain v (List.mem_of_getElem? hv)
      exact ⟨plain1_one hp, v, by simpa using hv, plain1_VR hp⟩
  all_goals exact ⟨rfl, fun ρ => trivial⟩
theorem globL_glob (L : List (Pl × AObj)) : Glob (ini (globL ++ L)) := fun g hg => by
  have : g < 8 := hg
  match g, this with
  | 0, _ => exact ⟨_, rfl, rfl, rfl, rfl⟩
  | 1, _ => exact ⟨_, rfl, rfl, rfl, rfl⟩
  | 2, _ => exact ⟨_, rfl, rfl, rfl, rfl⟩
  | 3, _ => exact ⟨_, rfl, rfl, rfl, rfl⟩
  | 4, _ => exact ⟨_, rfl, rfl, rfl, rfl⟩
  | 5, _ => exact ⟨_, rfl, rfl, rfl, rfl⟩
  | 6, _ => exact ⟨_, rfl, rfl, rfl, rfl⟩
  | 7, _ => exact ⟨_, rfl, rfl, rfl, rfl⟩
theorem globL_pow (L : List (Pl × AObj)) : Pow (iniH (globL ++ L)) := ⟨0, false, rfl⟩
end Go.Proofs.YtbheppfjaeocpaaGreatDoor
