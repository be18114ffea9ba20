/- r4: HostFinds: goes as calls that are known. Conditions: none. -/
import Derived.Test.YtgnkjpbecgpjoaaGreatDoorHfd1
import Derived.Test.YtgnkjpbecgpjoaaGreatDoorHfd2
import Derived.Test.YtgnkjpbecgpjoaaGreatDoorHfd3
import Derived.Test.YtgnkjpbecgpjoaaGreatDoorHfd4
set_option linter.unusedVariables false
set_option linter.unusedSimpArgs false
namespace Go.Proofs.YtgnkjpbecgpjoaaGreatDoor
open Go Go.Proofs.YtgnkjpbecgpjoaaGreatDoor.Fw Go.RowKit
theorem c15 : ∃ fn, Fw.Code Tryz.prog 15 k15 fn := Fw.Code.of K15
noncomputable def kfind (k : Nat) : List (Nat × Known) → Option Known
  | [] => none
  | (n, x) :: l => (match Nat.beq k n with | true => some x | false => kfind k l)
theorem kfind_ok {p : Known → Prop} {k : Nat} {x : Known} : ∀ {l : List (Nat × Known)}, (∀ y ∈ l, p y.2) → kfind k l = some x → p x
  | [], _, h => by cases h
  | (n, y) :: l, hl, h => by
    unfold kfind at h
    split at h
    · obtain rfl := Option.some.inj h; exact hl (n, y) (by simp)
    · exact kfind_ok (fun z hz => hl z (by simp [hz])) h
theorem fcK {p : Known → Prop} {n : Nat} {x : Known} {l : List (Nat × Known)} (h : p x) (t : ∀ y ∈ l, p y.2) : ∀ y ∈ (n, x) :: l, p y.2 := fun y hy => by
  rcases List.mem_cons.1 hy with rfl | hy
  · exact h
  · exact t y hy
theorem feK {p : Known → Prop} : ∀ y ∈ ([] : List (Nat × Known)), p y.2 := fun y hy => by cases hy
noncomputable def hfList : List (Nat × Known) := [(1040, ⟨[vp 10, vi 20, vn], hfG13, .tuple ⟨[]⟩, hfE13⟩), (1074, ⟨[vp 10, vi 20, vn], hfG14, .tuple ⟨[]⟩, hfE14⟩), (1108, ⟨[vp 10, vi 20, vn], hfG15, .tuple ⟨[]⟩, hfE15⟩), (1142, ⟨[vp 10, vi 20, vn], hfG16, .tuple ⟨[]⟩, hfE16⟩), (1176, ⟨[vp 10, vi 20, vn], hfG17, .tuple ⟨[]⟩, hfE17⟩), (1210, ⟨[vp 10, vi 20, vn], hfG18, .tuple ⟨[]⟩, hfE18⟩), (1244, ⟨[vp 10, vi 20, vn], hfG19, .tuple ⟨[]⟩, hfE19⟩), (1278, ⟨[vp 10, vi 20, vn], hfG20, .tuple ⟨[]⟩, hfE20⟩), (1312, ⟨[vp 10, vi 20, vn], hfG21, .tuple ⟨[]⟩, hfE21⟩), (1346, ⟨[vp 10, vi 20, vn], hfG22, .tuple ⟨[]⟩, hfE22⟩), (1380, ⟨[vp 10, vi 20, vn], hfG23, .tuple ⟨[]⟩, hfE23⟩), (1414, ⟨[vp 10, vi 20, vn], hfG24, .tuple ⟨[]⟩, hfE24⟩), (1448, ⟨[vp 10, vi 20, vn], hfG25, .tuple ⟨[]⟩, hfE25⟩), (1482, ⟨[vp 10, vi 20, vn], hfG26, .tuple ⟨[]⟩, hfE26⟩), (1516, ⟨[vp 10, vi 20, vn], hfG27, .tuple ⟨[]⟩, hfE27⟩), (1550, ⟨[vp 10, vi 20, vn], hfG28, .tuple ⟨[]⟩, hfE28⟩)]
theorem hfListOk : ∀ y ∈ hfList, Gf Tryz.prog 15 y.2.args y.2.T.H y.2.v y.2.L.H := by
  obtain ⟨fn, hc⟩ := c15
  exact fcK (p := fun x => Gf Tryz.prog 15 x.args x.T.H x.v x.L.H) (Gf.go EE_ok hc hfa13 (Gd.end_ EE_ok hc hfb13)) (fcK (p := fun x => Gf Tryz.prog 15 x.args x.T.H x.v x.L.H) (Gf.go EE_ok hc hfa14 (Gd.end_ EE_ok hc hfb14)) (fcK (p := fun x => Gf Tryz.prog 15 x.args x.T.H x.v x.L.H) (Gf.go EE_ok hc hfa15 (Gd.end_ EE_ok hc hfb15)) (fcK (p := fun x => Gf Tryz.prog 15 x.args x.T.H x.v x.L.H) (Gf.go EE_ok hc hfa16 (Gd.end_ EE_ok hc hfb16)) (fcK (p := fun x => Gf Tryz.prog 15 x.args x.T.H x.v x.L.H) (Gf.go EE_ok hc hfa17 (Gd.end_ EE_ok hc hfb17)) (fcK (p := fun x => Gf Tryz.prog 15 x.args x.T.H x.v x.L.H) (Gf.go EE_ok hc hfa18 (Gd.end_ EE_ok hc hfb18)) (fcK (p := fun x => Gf Tryz.prog 15 x.args x.T.H x.v x.L.H) (Gf.go EE_ok hc hfa19 (Gd.end_ EE_ok hc hfb19)) (fcK (p := fun x => Gf Tryz.prog 15 x.args x.T.H x.v x.L.H) (Gf.go EE_ok hc hfa20 (Gd.end_ EE_ok hc hfb20)) (fcK (p := fun x => Gf Tryz.prog 15 x.args x.T.H x.v x.L.H) (Gf.go EE_ok hc hfa21 (Gd.end_ EE_ok hc hfb21)) (fcK (p := fun x => Gf Tryz.prog 15 x.args x.T.H x.v x.L.H) (Gf.go EE_ok hc hfa22 (Gd.end_ EE_ok hc hfb22)) (fcK (p := fun x => Gf Tryz.prog 15 x.args x.T.H x.v x.L.H) (Gf.go EE_ok hc hfa23 (Gd.end_ EE_ok hc hfb23)) (fcK (p := fun x => Gf Tryz.prog 15 x.args x.T.H x.v x.L.H) (Gf.go EE_ok hc hfa24 (Gd.end_ EE_ok hc hfb24)) (fcK (p := fun x => Gf Tryz.prog 15 x.args x.T.H x.v x.L.H) (Gf.go EE_ok hc hfa25 (Gd.end_ EE_ok hc hfb25)) (fcK (p := fun x => Gf Tryz.prog 15 x.args x.T.H x.v x.L.H) (Gf.go EE_ok hc hfa26 (Gd.end_ EE_ok hc hfb26)) (fcK (p := fun x => Gf Tryz.prog 15 x.args x.T.H x.v x.L.H) (Gf.go EE_ok hc hfa27 (Gd.end_ EE_ok hc hfb27)) (fcK (p := fun x => Gf Tryz.prog 15 x.args x.T.H x.v x.L.H) (Gf.go EE_ok hc hfa28 (Gd.end_ EE_ok hc hfb28)) (feK (p := fun x => Gf Tryz.prog 15 x.args x.T.H x.v x.L.H)))))))))))))))))
noncomputable def g15 : Giv := Kn.giv fun k => kfind k hfList
theorem g15_ok : EntOk Tryz.prog 15 (.giv g15) := Kn.ok Tryz.func15 (by kernel_rfl) (by kernel_rfl) fun n x h => kfind_ok (p := fun x => Gf Tryz.prog 15 x.args x.T.H x.v x.L.H) hfListOk h
end Go.Proofs.YtgnkjpbecgpjoaaGreatDoor
