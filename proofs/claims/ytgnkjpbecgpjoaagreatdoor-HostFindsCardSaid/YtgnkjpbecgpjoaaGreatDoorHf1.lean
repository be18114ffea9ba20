/- r4: HostFinds: the heap behind what its two first calls bring about, and the runs from there on, for the kernel. Conditions: none. -/
import Derived.Test.YtgnkjpbecgpjoaaGreatDoorPm2
set_option linter.unusedVariables false
set_option linter.unusedSimpArgs false
namespace Go.Proofs.YtgnkjpbecgpjoaaGreatDoor
open Go Go.Proofs.YtgnkjpbecgpjoaaGreatDoor.Fw Go.RowKit
abbrev vi (n : Nat) : Value := .int .i64 (.ofNat n)
abbrev vp (b : Nat) : Value := .pointer (some ⟨b, 0, none⟩)
abbrev vn : Value := .slice none 0 0
noncomputable abbrev KC : KFs := kcall Tryz.prog EE 100000 300
noncomputable def T9 : KH := ⟨9, .e⟩
noncomputable def hfL : KH := ⟨570, (.n none (.n none (.n none (.n none (.n none (.n (some (.map [] [] 0)) (.n (some (.cells [(vi 80)] 0 true)) .e .e) .e) (.n (some (.map [] [] 0)) .e .e)) (.n (some (.map [] [] 0)) .e (.n (some (.map [] [] 0)) .e .e))) (.n none (.n (some (.cells [(vi 12), (vi 1000), (vi 4), (vi 9), (vi 30), (vi 0), (.slice (some ⟨22, 0, none⟩) 1 18446744073709551616), (.map (some 17)), (.map (some 18))] 0 true)) .e .e) (.n none (.n (some (.cells [(vi 13), (vi 1000), (vi 4), (vi 9), (vi 30), (vi 0), (.slice (some ⟨46, 0, none⟩) 1 18446744073709551616), (.map (some 41)), (.map (some 42))] 0 true)) .e .e) .e))) (.n none (.n (some (.map [] [] 0)) (.n (some (.map [] [] 0)) (.n (some (.map [] [] 0)) .e .e) .e) (.n none (.n (some (.map [] [] 0)) .e .e) (.n (some (.map [((vi 0), (.iface 437 (vp 63)))] [0] 1)) .e .e))) (.n none (.n none .e (.n (some (.map [((vi 80), (.bool true))] [0] 1)) .e .e)) (.n (some (.map [] [] 0)) .e .e)))) (.n none (.n none (.n none (.n none (.n (some (.cells [(vi 40), (vi 200), (vi 1), (vi 8), (vi 4), (vi 40), (vi 30), (vi 10), (vi 10), (vi 4), (vi 9), (vi 10), (vi 0), (.map (some 29)), (.map (some 30)), (.map (some 31))] 0 true)) .e .e) (.n (some (.cells [(vi 4), (vi 30), (vi 0), (vi 0), (.map (some 47))] 0 true)) .e .e)) (.n (some (.cells [(vi 4), (vi 30), (vi 0), (vi 0), (.map (some 23))] 0 true)) .e (.n (some (.cells [(vi 40), (vi 200), (vi 1), (vi 8), (vi 4), (vi 40), (vi 30), (vi 10), (vi 11), (vi 4), (vi 9), (vi 11), (vi 0), (.map (some 53)), (.map (some 54)), (.map (some 55))] 0 true)) .e .e))) (.n none (.n none (.n none (.n (some (.cells [(vi 1048577), (vi 2), (vi 0), (vi 0), (vi 0), (vi 0), (.string ⟨⟨[]⟩⟩), (vi 0), (vi 0), (.pointer none)] 0 true)) .e .e) .e) .e) .e)) (.n none (.n (some (.cells [(vp 14), (vp 38), vn, vn, (.map (some 9)), (vi 0)] 0 true)) (.n (some (.map [] [] 0)) (.n (some (.cells [(vp 32), (.map (some 33)), vn, vn, (vi 0)] 0 true)) .e .e) .e) (.n none (.n (some (.map [] [] 0)) .e .e) (.n (some (.cells [(vp 56), (.map (some 57)), (.slice (some ⟨62, 0, none⟩) 1 18446744073709551617), vn, (vi 0)] 0 true)) .e .e))) (.n (some (.cells [(vi 12), (vi 10), (vi 0), (vi 12), (vi 1000), (vi 4), (vi 9), (vi 30), (vi 4), (vi 30), (vi 40), (vi 200), (vi 1), (vi 8), (vi 4), (vi 40), (vi 30), (vi 10), (vi 10), (vi 4), (vi 9), (vp 19), (vp 24), (vp 34), (vi 0), (vi 0), (vi 0), (vi 0), (vi 1048576), (vi 0), vn, vn, vn] 0 true)) (.n (some (.cells [(vi 10)] 1 true)) (.n (some (.cells [(vi 13), (vi 11), (vi 80), (vi 13), (vi 1000), (vi 4), (vi 9), (vi 30), (vi 4), (vi 30), (vi 40), (vi 200), (vi 1), (vi 8), (vi 4), (vi 40), (vi 30), (vi 10), (vi 11), (vi 4), (vi 9), (vp 43), (vp 48), (vp 58), (vi 0), (vi 0), (vi 0), (vi 0), (vi 1048577), (vi 1048577), vn, vn, vn] 0 true)) .e .e) (.n (some (.map [] [] 0)) .e .e)) (.n (some (.map [] [] 0)) (.n (some (.cells [(vi 11)] 1 true)) .e .e) (.n (some (.cells [(vp 68)] 1 true)) .e .e))))))⟩
noncomputable def hfPre2 : KR → Bool
  | some (.bool true, T2) => kkill T2 hfL
  | _ => false
noncomputable def hfPre : KR → Bool
  | some (.pointer (some ⟨10, 0, none⟩), T1) => hfPre2 (KC 14 [] T1)
  | _ => false
noncomputable def hfRun (n far : Nat) (b : Bool) : KR := kdrv Tryz.prog KC k4 100000 (k4.C 8 [vi n, .bool b, vp 10, vi far]) hfL
theorem hf_pre : hfPre (KC 13 [] T9) = true := by kernel_rfl
end Go.Proofs.YtgnkjpbecgpjoaaGreatDoor
