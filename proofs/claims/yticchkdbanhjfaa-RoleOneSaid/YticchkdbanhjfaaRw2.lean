/- The parts of role, of the program: what is left of their methods. -/
import Derived.Test.YticchkdbanhjfaaRw1
import Derived.Test.YticchkdbanhjfaaRo3
set_option linter.unusedVariables false
set_option linter.unusedSimpArgs false
namespace Go.Proofs.Yticchkdbanhjfaa
open Go Go.RowKit Go.Proofs.Yticchkdbanhjfaa.Fw

theorem To_of {H : Heap} {b : Nat} {s s' : Pt} (h : At H b s) (g : Heap) : To b s' H (W H b s' g) :=
  ⟨W_isAt h.lt, by simp [W], fun k hk hne => by unfold W; rw [List.getElem?_append_left (by simpa using hk), List.getElem?_set_ne (Ne.symm hne)]⟩

section
variable {H : Heap} {b : Nat} {s : Pt} {g : Heap}
theorem W_at2 (hb : b < H.length) : (W H b s g)[b]? = some (.cells s.cs 0 true) := W_at hb
end

/-! What the methods do. -/
def timeM (s : Pt) (now : Int) : Pt := { s with now := tick s now }
def dropsM (s : Pt) (now : Int) : Bool × Pt :=
  if s.role != 4 then (false, timeM s now) else if s.serves == 0 then (false, timeM s now) else if decide (IntKind.i64.wrap (tick s now - s.heard) < s.patience) then (false, timeM s now)
  else (true, { s with now := tick s now, known := IntKind.i64.wrap (s.serves - 1), serves := 0 })
def fenceM (s : Pt) : Pt := if s.role != 0 then { s with role := 5 } else s
def crashM (s : Pt) : Pt := { s with role := 0, epoch := 0, inc := 0, serves := 0, known := 0 }
end Go.Proofs.Yticchkdbanhjfaa
