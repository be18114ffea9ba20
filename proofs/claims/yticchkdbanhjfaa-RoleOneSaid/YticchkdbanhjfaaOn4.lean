/- RoleOne: beats on their way, and 'does'. -/
import Derived.Test.YticchkdbanhjfaaOn3
set_option linter.unusedVariables false
set_option linter.unusedSimpArgs false
namespace Go.Proofs.Yticchkdbanhjfaa
open Go Go.RowKit Go.Proofs.Yticchkdbanhjfaa.Fw
theorem bytes55 : Try.prog.bytesOf 55 = 56 := by kernel_rfl
theorem cells55 : Try.prog.cellsOf 55 = 6 := by kernel_rfl
section
variable {β : Type}
theorem firstC_at {H : Heap} {sz j o l c : Nat} {cs : List Value} {e : Nat} {own : Bool} (h : H[j]? = some (.cells cs e own)) (hl : o + l * sz ≤ cs.length) (k : Nat → List Value → Option β) :
    firstC H sz (.slice (some ⟨j, o, none⟩) l c) k = k l (range cs o (l * sz)) := by
  simp only [firstC, ldc, h]
  rw [if_pos hl]
theorem slSl_at {H : Heap} {sz j l c : Nat} {cs : List Value} {own : Bool} (h : H[j]? = some (.cells cs sz own)) {x y : Nat} (hxy : x ≤ y) (hy : y ≤ l) {X Y : Int} (hX : X = (x : Int)) (hY : Y = (y : Int)) (k : Value → Option β) :
    slSl H sz (some ⟨j, 0, none⟩) l c X Y k = k (.slice (some ((⟨j, 0, none⟩ : Addr).add (x * sz))) (y - x) (slCap c x)) := by
  subst hX; subst hY
  simp only [slSl, esOk, h, Nat.beq_refl, Int.toNat_natCast]
  rw [if_pos ⟨by omega, by omega, .inl (by omega)⟩]
theorem add0 (j n : Nat) : (⟨j, 0, none⟩ : Addr).add n = ⟨j, n, none⟩ := by
  unfold Addr.add
  split
  · rename_i h; subst h; rfl
  · simp
end
theorem range_range_take {cs : List Value} {t o n : Nat} (h : o + n ≤ t) : range (cs.take t) o n = range cs o n := by
  unfold range
  rw [List.drop_take, List.take_take, Nat.min_eq_left (by omega)]

theorem unt_add (H H' : Heap) (a : Addr) (m : Nat) (k : R) : unt H H' (a.add m).block k = unt H H' a.block k := by rw [add_block]
section
variable {n : Nat → Prop} {H0 : Heap} {q : Nat} {b : Nat → Nat} {z : Sy} {H : Heap} {k : Nat}
theorem fill6 (x : Lt) : Instr.fill (fun i => some (i * 6, 6)) ([.int .i64 (0 : Int), .int .i64 (0 : Int), .int .i64 (0 : Int), .int .i64 (0 : Int), .int .i64 (0 : Int), .string (⟨#[]⟩ : ByteArray)] : List Value).toArray (([0] : List Nat).zip [.agg x.cs.toArray]) = some x.cs.toArray := by kernel_rfl
theorem cellsOks1 (x : Lt) (K : R) : cellsOks [.agg x.cs.toArray] K = K := rfl
theorem size6 (x : Lt) : x.cs.toArray.size = 6 := rfl

/-- What is left of a way if the letter n is taken. -/
def rest (ls : List Lt) (i : Nat) : List Lt := ls.take i ++ ls.drop (i + 1)

theorem way_len (h : Q n H0 q b z H) (hk : k < 2) : (z.ls k).length = (z.w k).l := by
  have := (h.way k hk).1
  rw [fl_len] at this
  omega

theorem r41_9 (h : Q n H0 q b z H) (hk : k < 2) (m : Nat) (x : Int) {d : Dx} {j : Nat} (hj : H[j]? = some (bd d)) (hjq : j ≠ q) (hlen : (z.w k).l ≤ 1000) : Done n H0 q b z (R41 (m + 3) td41_9 [.pointer (pn q), .pointer (pn j), .int .i64 (k : Int), .pointer (pn (b k)), .int .i64 x] H) := by
  have e := c41_9 (m + 2) (pn q) (pn j) (k : Int) (pn (b k)) x H
  have r15 := r41_15 h hk m x hj
  have r13 := fun (z : Sy) (H : Heap) (h : Q n H0 q b z H) (y : Lt) (j : Nat) (hj : H[j]? = some (bx y)) => r41_13 h hk (m + 1) x hj
  have dn : ∀ K : Value → R, onSome d.cs[0 + 1]? K = K (.int .i64 d.n) := fun _ => rfl
  have out : ∀ {r : R}, Done n H0 q b z r → R41 (m + 3) td41_9 [.pointer (pn q), .pointer (pn j), .int .i64 (k : Int), .pointer (pn (b k)), .int .i64 x] H = r → Done n H0 q b z (R41 (m + 3) td41_9 [.pointer (pn q), .pointer (pn j), .int .i64 (k : Int), .pointer (pn (b k)), .int .i64 x] H) := fun hd he => by rw [he]; exact hd
  unfold pn at *
  rcases Bool.eq_false_or_eq_true (decide (x ≤ 2)) with hx | hx
  case inr => simp only [hx] at e; exact out r15 e
  rcases Bool.eq_false_or_eq_true (decide (0 < x)) with hx0 | hx0
  case inr => simp only [hx, hx0] at e; exact out r15 e
  rcases Bool.eq_false_or_eq_true (decide ((0 : Int) < (((z.w k).l : Nat) : Int))) with hl | hl
  case inr =>
    simp only [hx, hx0, ↓onSome_some, ↓Fw.kInt_int, ↓Fw.kBool_bool, ↓Fw.kStr_str, ↓Fw.kTup_tup, ↓Fw.kPtr_ptr, ↓Fw.kSl_sl, ↓Fw.kAgg_agg, ↓if_pos (kin hk), ↓ldc_add, ↓ldc_at h.cell, ↓qW hk, hl] at e
    exact out r15 e
  have hl' : 0 < (z.w k).l := by have := of_decide_eq_true hl; omega
  have hV := h.way k hk
  have hll := way_len h hk
  obtain ⟨jw, cs, ea, hw, ht, hle⟩ := hV.at_ hl'
  have e23 := among23 H d.n (z.w k).l (by omega) (by omega)
  have hb := into_bnd (x := d.n) (m := (z.w k).l) (by omega)
  generalize into d.n (z.w k).l = iv at e23 hb
  obtain ⟨i, rfl⟩ : ∃ i : Nat, iv = (i : Int) := ⟨iv.toNat, by omega⟩
  have hi : i < (z.w k).l := by omega
  have hlt : i < (z.ls k).length := by omega
  have hin : (0 : Int) ≤ (i : Int) ∧ (i : Int) < (((z.w k).l : Nat) : Int) := by omega
  have hin6 : i * 6 + 6 ≤ (z.w k).l * 6 := by omega
  have gx : range cs (0 + i * 6) 6 = (z.ls k)[i].cs := by
    rw [Nat.zero_add, ← range_range_take (t := (z.w k).l * 6) (by omega), ht]
    exact fl_get (by simp [hlt])
  have gle : (((⟨jw, 0, none⟩ : Addr).add ((i : Int).toNat * 6)).off + 6 ≤ cs.length) := by rw [add_off, Int.toNat_natCast]; show 0 + i * 6 + 6 ≤ _; omega
  have gx' : range cs ((⟨jw, 0, none⟩ : Addr).add ((i : Int).toNat * 6)).off 6 = (z.ls k)[i].cs := by rw [add_off, Int.toNat_natCast]; exact gx
  -- the heaps
  have h33 : Q n H0 q b z (H ++ [bx (z.ls k)[i]] ++ [.cells [] 6 true]) := (h.push _).push _
  have hw33 : (H ++ [bx (z.ls k)[i]] ++ [.cells [] 6 true])[jw]? = some (.cells cs 6 true) := heap_keep (heap_keep hw _) _
  have hx33 : (H ++ [bx (z.ls k)[i]] ++ [.cells [] 6 true])[H.length]? = some (bx (z.ls k)[i]) := heap_keep (by simp) _
  have l32 : (H ++ [bx (z.ls k)[i]]).length = H.length + 1 := by simp
  have jl : jw < H.length := (List.getElem?_eq_some_iff.1 hw).1
  have ql := h.ql
  have l33 : (H ++ [bx (z.ls k)[i]] ++ [AObj.cells [] 6 true]).length = H.length + 2 := by simp
  have v0 : Vec 6 (H ++ [bx (z.ls k)[i]] ++ [.cells [] 6 true]) (some ⟨(H ++ [bx (z.ls k)[i]]).length, 0, none⟩) 0 0 [] := ⟨rfl, .inr ⟨_, [], rfl, by simp, rfl, .inr ⟨Nat.le_refl _, by simp⟩⟩⟩
  have rA : range cs 0 (i * 6) = fl ((z.ls k).take i) := by
    rw [← range_range_take (t := (z.w k).l * 6) (by omega), ht]
    unfold range; rw [List.drop_zero, fl_take]
  have rB : range cs ((i + 1) * 6) (((z.w k).l - (i + 1)) * 6) = fl ((z.ls k).drop (i + 1)) := by
    have e1 : ((z.w k).l - (i + 1)) * 6 = (z.w k).l * 6 - (i + 1) * 6 := by omega
    rw [← range_range_take (t := (z.w k).l * 6) (by omega), ht]
    unfold range
    rw [fl_drop, List.take_of_length_le]
    rw [fl_len, List.length_drop]; omega
  obtain ⟨a1, c1, H1, app1, V1, L1, K1, N1⟩ := v0.app (P := Try.prog) (e := 55) cells55 (n := i) (nw := fl ((z.ls k).take i)) (by rw [fl_len, List.length_take]; omega) (by rw [bytes55]; omega) (by omega)
  have kw1 : H1[jw]? = (H ++ [bx (z.ls k)[i]] ++ [AObj.cells [] 6 true])[jw]? := K1 jw (by omega) (by simp [ab]; omega)
  have kq1 : H1[q]? = (H ++ [bx (z.ls k)[i]] ++ [AObj.cells [] 6 true])[q]? := K1 q (by omega) (by simp [ab]; omega)
  obtain ⟨a2, c2, H2, app2, V2, L2, K2, N2⟩ := V1.app (P := Try.prog) (e := 55) cells55 (n := (z.w k).l - (i + 1)) (nw := fl ((z.ls k).drop (i + 1))) (by rw [fl_len, List.length_drop]; omega) (by rw [bytes55]; omega) (by omega)
  rw [List.nil_append, ← fl_app] at V2
  -- what goes on
  have old1 : ∀ i', ab a1 = some i' → H.length ≤ i' := fun i' hi' => by
    rcases N1 i' hi' with e | e
    · have : (H ++ [bx (z.ls k)[i]]).length = i' := by simpa [ab] using e
      omega
    · omega
  have old2 : ∀ i', ab a2 = some i' → H.length ≤ i' := fun i' hi' => by
    rcases N2 i' hi' with e | e
    · exact old1 i' e
    · omega
  have keep2 : ∀ i', i' < H.length + 1 → H2[i']? = (H ++ [bx (z.ls k)[i]] ++ [AObj.cells [] 6 true])[i']? := fun i' hi' => by
    have x1 : ab a1 ≠ some i' := fun e => by
      rcases N1 i' e with e2 | e2
      · have : (H ++ [bx (z.ls k)[i]]).length = i' := by simpa [ab] using e2
        omega
      · omega
    rw [K2 i' (by omega) x1]
    exact K1 i' (by omega) (by simp [ab]; omega)
  have keepH : ∀ i', i' < H.length → H2[i']? = H[i']? := fun i' hi' => by
    rw [keep2 i' (by omega), List.getElem?_append_left (by simp; omega), List.getElem?_append_left hi']
  have hc2 : H2[q]? = some (.cells (qc b z) 0 true) := (keepH q ql).trans h.cell
  have h3 := h.ways hk (w := ⟨a2, 0 + i + ((z.w k).l - (i + 1)), c2⟩) (ls := rest (z.ls k) i) (H1 := H2) V2 (by omega) (fun i' hi' _ => keepH i' hi') (fun i' hi' => .inr (old2 i' hi'))
  have hx3 : (H2.set q (.cells (qc b { z with w := up z.w k ⟨a2, 0 + i + ((z.w k).l - (i + 1)), c2⟩, ls := up z.ls k (rest (z.ls k) i) }) 0 true))[H.length]? = some (bx (z.ls k)[i]) := by
    rw [List.getElem?_set_ne (by omega), keep2 _ (by omega)]; exact hx33
  have r13' := r13 _ _ h3 (z.ls k)[i] H.length hx3
  have w1 : IntKind.i64.wrap ((i : Int) + 1) = ((i + 1 : Nat) : Int) := wrap_succ (by omega)
  have s1 : ∀ K : Value → R, slSl (H ++ [bx (z.ls k)[i]] ++ [AObj.cells [] 6 true]) 6 (some ⟨jw, 0, none⟩) (z.w k).l (z.w k).c 0 (i : Int) K = _ := fun K => slSl_at (c := (z.w k).c) hw33 (x := 0) (y := i) (by omega) (by omega) rfl rfl K
  have s2 : ∀ K : Value → R, slSl (H ++ [bx (z.ls k)[i]] ++ [AObj.cells [] 6 true]) 6 (some ⟨jw, 0, none⟩) (z.w k).l (z.w k).c ((i + 1 : Nat) : Int) (((z.w k).l : Nat) : Int) K = _ := fun K => slSl_at (c := (z.w k).c) hw33 (x := i + 1) (y := (z.w k).l) (by omega) (by omega) rfl rfl K
  have f1 : ∀ K : Nat → List Value → R, firstC (H ++ [bx (z.ls k)[i]] ++ [AObj.cells [] 6 true]) 6 (.slice (some ⟨jw, 0, none⟩) i (slCap (z.w k).c 0)) K = K i (fl ((z.ls k).take i)) := fun K => by
    rw [firstC_at hw33 (by omega), rA]
  have hw1 : H1[jw]? = some (.cells cs 6 true) := kw1.trans hw33
  have f2 : ∀ K : Nat → List Value → R, firstC H1 6 (.slice (some ⟨jw, (i + 1) * 6, none⟩) ((z.w k).l - (i + 1)) (slCap (z.w k).c (i + 1))) K = K ((z.w k).l - (i + 1)) (fl ((z.ls k).drop (i + 1))) := fun K => by
    rw [firstC_at hw1 (by omega), rB]
  have wka : ∀ (o1 o2 : Nat), (z.w k).a = some ⟨jw, 0, none⟩ := fun _ _ => ea
  simp only [hx, hx0, ↓onSome_some, ↓Fw.kInt_int, ↓Fw.kBool_bool, ↓Fw.kStr_str, ↓Fw.kTup_tup, ↓Fw.kPtr_ptr, ↓Fw.kSl_sl, ↓Fw.kAgg_agg, ↓if_pos (kin hk), ↓ldc_add, ↓ldc_at h.cell, ↓qW hk, hl, ↓ldc_at hj, bd, ↓dn, ↓on_of e23, ea, ↓if_pos hin, ↓ldc_at hw, ↓if_pos gle, gx', ↓st_new6 _ z6, ↓ldc_at h33.cell, s1, s2, w1, ↓unt_of kw1, ↓unt_of kq1] at e
  simp only [Nat.zero_mul, add0, Nat.sub_zero, f1, app1, ↓onSome_some, ↓Fw.kInt_int, ↓Fw.kBool_bool, ↓Fw.kStr_str, ↓Fw.kTup_tup, ↓Fw.kPtr_ptr, ↓Fw.kSl_sl, ↓Fw.kAgg_agg, ↓unt_add, ↓unt_of kw1, ↓unt_of kq1, f2, app2, ↓if_pos (kin hk), ↓h.stW hk hc2 (rest (z.ls k) i)] at e
  obtain ⟨H', z', e', h', g'⟩ := r13'
  refine ⟨H', z', e.trans e', h', ⟨g'.ok, g'.one, g'.ep, fun j hj => ?_⟩⟩
  have := g'.len j hj
  by_cases ej : j = k
  · subst ej
    have : (z'.w j).l ≤ (up z.w j ⟨a2, 0 + i + ((z.w j).l - (i + 1)), c2⟩ j).l + 1 := this
    rw [up_same] at this
    have : (z'.w j).l ≤ 0 + i + ((z.w j).l - (i + 1)) + 1 := this
    omega
  · have : (z'.w j).l ≤ (up z.w k ⟨a2, 0 + i + ((z.w k).l - (i + 1)), c2⟩ j).l + 1 := this
    rw [up_ne _ _ ej] at this
    exact this

theorem r41_4 (h : Q n H0 q b z H) (hk : k < 2) (m : Nat) {d : Dx} {j : Nat} (hj : H[j]? = some (bd d)) (hjq : j ≠ q) (hlen : ∀ k, k < 2 → (z.w k).l ≤ 1000) : Done n H0 q b z (R41 (m + 4) td41_4 [.pointer (pn q), .pointer (pn j), .int .i64 (k : Int)] H) := by
  have e := c41_4 (m + 3) (pn q) (pn j) (k : Int) H
  have e23 := among23 H d.kind 8 (by omega) (by omega)
  have dk : ∀ K : Value → R, onSome d.cs[0]? K = K (.int .i64 d.kind) := fun _ => rfl
  have r9 := r41_9 h hk m (into d.kind 8) hj hjq (hlen k hk)
  have e30 : F30 [.pointer (pn (b k))] H = _ := state30 (h.part k hk)
  have out : ∀ {r : R}, Done n H0 q b z r → R41 (m + 4) td41_4 [.pointer (pn q), .pointer (pn j), .int .i64 (k : Int)] H = r → Done n H0 q b z (R41 (m + 4) td41_4 [.pointer (pn q), .pointer (pn j), .int .i64 (k : Int)] H) := fun hd he => by rw [he]; exact hd
  obtain ⟨y, g, e72⟩ := beat72 h hk
  unfold pn at *
  generalize into d.kind 8 = iv at *
  simp only [↓onSome_some, ↓Fw.kInt_int, ↓Fw.kBool_bool, ↓Fw.kStr_str, ↓Fw.kTup_tup, ↓Fw.kPtr_ptr, ↓Fw.kSl_sl, ↓Fw.kAgg_agg, ↓if_pos (kin hk), ↓ldc_add, ↓ldc_at h.cell, ↓qP hk, ↓on_of e30, List.getElem?_toArray, List.getElem?_cons_zero, List.getElem?_cons_succ, ↓ldc_at hj, bd, ↓dk, ↓on_of e23] at e
  rcases Bool.eq_false_or_eq_true (iv == 0) with h0 | h0
  case inr => simp only [h0] at e; exact out r9 e
  rcases Bool.eq_false_or_eq_true ((z.s k).role != 0) with h1 | h1
  case inr => simp only [h0, h1] at e; exact out r9 e
  rcases Bool.eq_false_or_eq_true ((z.s k).role != 5) with h2 | h2
  case inr => simp only [h0, h1, h2] at e; exact out r9 e
  have ho : 1 - k < 2 := by omega
  have hg : Q n H0 q b z (H ++ g ++ [.cells y.cs 6 true]) := (h.push _).push _
  have hV := hg.way (1 - k) ho
  have lo := hlen (1 - k) ho
  have f1 : ∀ K : Nat → List Value → R, firstC (H ++ g ++ [.cells y.cs 6 true]) 6 (.slice (some ⟨(H ++ g).length, 0, none⟩) 1 1) K = K 1 y.cs := fun K => by
    rw [firstC_at (cs := y.cs) (e := 6) (own := true) (by simp) (by simp [Lt.cs])]
    rfl
  obtain ⟨a1, c1, H1, app1, V1, L1, K1, N1⟩ := hV.app (P := Try.prog) (e := 55) cells55 (n := 1) (nw := y.cs) rfl (by rw [bytes55]; omega) (by omega)
  have kq : (H ++ g)[q]? = H[q]? := List.getElem?_append_left h.ql
  have hc1 : H1[q]? = some (.cells (qc b z) 0 true) := (K1 q hg.ql (hg.wq _ ho)).trans hg.cell
  have V1' : Vec 6 H1 a1 ((z.w (1 - k)).l + 1) c1 (fl (z.ls (1 - k) ++ [y])) := by rw [fl_app]; simpa [fl] using V1
  have h3 := hg.ways ho (w := ⟨a1, (z.w (1 - k)).l + 1, c1⟩) (ls := z.ls (1 - k) ++ [y]) V1' L1 (fun i' hi' hne => K1 i' hi' hne) (fun i' hi' => by
    rcases N1 i' hi' with e | e
    · exact .inl e
    · exact .inr (by omega))
  simp only [h0, h1, h2, kother hk, ↓onSome_some, ↓Fw.kInt_int, ↓Fw.kBool_bool, ↓Fw.kStr_str, ↓Fw.kTup_tup, ↓Fw.kPtr_ptr, ↓Fw.kSl_sl, ↓Fw.kAgg_agg, ↓if_pos (kin ho), ↓ldc_add, ↓ldc_at h.cell, ↓qW ho, ↓on_of e72, ↓if_pos (size6 y), ↓unt_add, ↓unt_of kq, ↓cellsOks1, fill6, f1, app1, ↓hg.stW ho hc1 (z.ls (1 - k) ++ [y])] at e
  refine ⟨_, _, e, h3, .mv (fun j _ => .refl _) fun j hj => ?_⟩
  show (up z.w (1 - k) ⟨a1, (z.w (1 - k)).l + 1, c1⟩ j).l ≤ (z.w j).l + 1
  by_cases ej : j = 1 - k
  · subst ej; rw [up_same]; exact Nat.le_refl _
  · rw [up_ne _ _ ej]; exact Nat.le_succ _

theorem does41 (h : Q n H0 q b z H) (d : Dx) (hlen : ∀ k, k < 2 → (z.w k).l ≤ 1000) : ∃ H' z', F41 [.pointer (pn q), .agg d.cs.toArray] H = some (.tuple #[], H') ∧ Q n H0 q b z' H' ∧ Go1 z z' := by
  have f : ∀ m r, fnE Try.prog G41 Try.f41 cuts41 m [.pointer (pn q), .agg d.cs.toArray] H = some r → F41 [.pointer (pn q), .agg d.cs.toArray] H = some r := fun m r h => FN_of m h (Nat.le_of_ble_eq_true (by kernel_rfl))
  have hp := h.push [bd d]
  have hj : (H ++ [bd d])[H.length]? = some (bd d) := by simp
  have ds : ∀ K : Value → R, onSome d.cs[0 + 2]? K = K (.bool d.sec) := fun _ => rfl
  have ql := h.ql
  obtain ⟨m, _⟩ : ∃ m : Nat, m = 0 := ⟨0, rfl⟩
  have e := t41 (m + 4) (pn q) d.kind d.n d.sec H
  have eb : AObj.cells [.int .i64 d.kind, .int .i64 d.n, .bool d.sec] 0 true = bd d := rfl
  have hj' : (H ++ [bd d])[H.length]? = some (.cells d.cs 0 true) := hj
  simp only [eb, ↓onSome_some, ↓Fw.kInt_int, ↓Fw.kBool_bool, ↓Fw.kStr_str, ↓Fw.kTup_tup, ↓Fw.kPtr_ptr, ↓Fw.kSl_sl, ↓Fw.kAgg_agg, ↓ldc_at hj', ↓ds] at e
  have e := fun r h => f (m + 4) r (e.trans h)
  cases hs : d.sec with
  | true =>
    simp only [hs] at e
    have r4 := r41_4 hp (k := 1) (by decide) m hj (by omega) hlen
    rw [show ((1 : Nat) : Int) = 1 from rfl] at r4
    obtain ⟨H', z', e', h', g'⟩ := r4
    exact ⟨H', z', e _ e', h', g'⟩
  | false =>
    simp only [hs] at e
    have r4 := r41_4 hp (k := 0) (by decide) m hj (by omega) hlen
    rw [show ((0 : Nat) : Int) = 0 from rfl] at r4
    obtain ⟨H', z', e', h', g'⟩ := r4
    exact ⟨H', z', e _ e', h', g'⟩
end
end Go.Proofs.Yticchkdbanhjfaa
