/- RolePlays: two parts that go alike. -/
import Derived.Test.YticchkdbanhjfaaRw4
import Derived.Test.YticchkdbanhjfaaRo4
set_option linter.unusedVariables false
set_option linter.unusedSimpArgs false
namespace Go.Proofs.Yticchkdbanhjfaa
open Go Go.RowKit Go.Proofs.Yticchkdbanhjfaa.Fw

/-! What may be stays so. -/
section
variable {s : Pt}
theorem ok_time (h : s.Ok) (now : Int) : (timeM s now).Ok := ⟨tick_bnd h.now now, h.heard, h.pat, h.epoch⟩
theorem ok_boot (h : s.Ok) (now : Int) : (bootM s now).2.Ok := by
  unfold bootM
  split
  · exact h
  · exact ⟨tick_bnd h.now now, h.heard, h.pat, by show (0 : Int) ≤ 1 ∧ (1 : Int) ≤ 4294967295; decide⟩
theorem ok_join (h : s.Ok) (inc now : Int) : (joinM s inc now).2.Ok := by
  unfold joinM
  split
  · exact h
  split
  · exact h
  split
  · exact h
  · exact ⟨tick_bnd h.now now, tick_bnd h.now now, h.pat, by show (0 : Int) ≤ 0 ∧ (0 : Int) ≤ 4294967295; decide⟩
theorem ok_sync (h : s.Ok) (now : Int) : (syncM s now).2.Ok := by
  unfold syncM
  split
  · exact h
  split
  · exact h
  · exact ⟨tick_bnd h.now now, tick_bnd h.now now, h.pat, h.epoch⟩
theorem ok_fence (h : s.Ok) : (fenceM s).Ok := by
  unfold fenceM
  split
  · exact ⟨h.now, h.heard, h.pat, h.epoch⟩
  · exact h
theorem ok_crash (h : s.Ok) : (crashM s).Ok := ⟨h.now, h.heard, h.pat, by show (0 : Int) ≤ 0 ∧ (0 : Int) ≤ 4294967295; decide⟩
theorem ok_drops (h : s.Ok) (now : Int) : (dropsM s now).2.Ok := by
  have ht := ok_time h now
  unfold dropsM
  split
  · exact ht
  split
  · exact ht
  split
  · exact ht
  · exact ⟨ht.now, h.heard, h.pat, h.epoch⟩
theorem ok_granted (h : s.Ok) (now : Int) : (granted s now).2.Ok := by
  have ht := ok_time h now
  unfold granted
  split
  · exact h
  simp only []
  split
  · exact ht
  · rename_i hn
    simp only [Bool.or_eq_true, decide_eq_true_eq, not_or] at hn
    refine ⟨ht.now, h.heard, h.pat, ?_⟩
    have := h.epoch
    show 0 ≤ IntKind.i64.wrap (s.epoch + 1) ∧ IntKind.i64.wrap (s.epoch + 1) ≤ 4294967295
    rw [wrap_in ⟨by omega, by omega⟩]
    omega
theorem good_epoch {x : Lt} (h : x.good = true) : 0 ≤ x.epoch ∧ x.epoch ≤ 4294967295 := by
  unfold Lt.good isWord at h
  simp only [Bool.and_eq_true, decide_eq_true_eq] at h
  exact h.1
theorem ok_hear (h : s.Ok) (x : Lt) (now : Int) : (hear s x now).2.2.Ok := by
  have ht := ok_time h now
  unfold hear
  split
  · exact h
  split
  · exact h
  rename_i hg
  simp only []
  split
  · exact ⟨ht.now, ht.now, h.pat, good_epoch (by simpa using hg)⟩
  split
  · rename_i ha
    refine ⟨ht.now, ht.now, h.pat, ?_⟩
    unfold asked at ha
    simp only [Bool.and_eq_true, decide_eq_true_eq] at ha
    have := h.epoch
    have := ha.2.2.2.2.2
    show 0 ≤ IntKind.i64.wrap (s.epoch + 1) ∧ IntKind.i64.wrap (s.epoch + 1) ≤ 4294967295
    rw [wrap_in ⟨by omega, by omega⟩]
    omega
  split
  · exact ht
  split
  · exact ⟨ht.now, ht.now, h.pat, h.epoch⟩
  · exact ⟨ht.now, ht.now, h.pat, h.epoch⟩
end

/-- Two blocks hold alike parts; what lay there ahead lies there as it did. -/
structure Two (n : Nat) (H0 : Heap) (b c : Nat) (s : Pt) (H : Heap) : Prop where
  b_ : At H b s
  c_ : At H c s
  ne : b ≠ c
  nb : n ≤ b
  nc : n ≤ c
  len : n ≤ H.length
  keep : ∀ k, k < n → H[k]? = H0[k]?
theorem Two.push {n : Nat} {H0 : Heap} {b c : Nat} {s : Pt} {H : Heap} (h : Two n H0 b c s H) (l : Heap) : Two n H0 b c s (H ++ l) :=
  ⟨heap_keep h.b_ l, heap_keep h.c_ l, h.ne, h.nb, h.nc, by have := h.len; simp; omega, fun k hk => by rw [List.getElem?_append_left (by have := h.len; omega)]; exact h.keep k hk⟩
theorem Two.to {n : Nat} {H0 : Heap} {b c : Nat} {s s' : Pt} {H H1 H2 : Heap} (h : Two n H0 b c s H) (t1 : To b s' H H1) (t2 : To c s' H1 H2) : Two n H0 b c s' H2 :=
  ⟨(t2.keep b (t1.at_.lt) h.ne).trans t1.at_, t2.at_, h.ne, h.nb, h.nc, by have := h.len; have := t1.len; have := t2.len; omega, fun k hk => by
    have := h.len; have := t1.len; have := h.nb; have := h.nc
    rw [t2.keep k (by omega) (by omega), t1.keep k (by omega) (by omega)]; exact h.keep k hk⟩
theorem To.other {b c : Nat} {s' t : Pt} {H H1 : Heap} (h : To b s' H H1) (hc : At H c t) (hne : b ≠ c) : At H1 c t := (h.keep c hc.lt (Ne.symm hne)).trans hc

/-- A method of each: alike answers. -/
theorem pair {n : Nat} {H0 : Heap} {b c : Nat} {s s' : Pt} {H : Heap} (h : Two n H0 b c s H) {Fp Fr : List Value → Heap → R} {xs : List Value} {v : Value}
    (hp : ∀ {H : Heap} {b : Nat}, b < H.length → Fp (.pointer (pn b) :: xs) (W H b s []) = some (v, W H b s' []))
    (hr : ∀ {H : Heap} {b : Nat}, b < H.length → Fr (.pointer (pn b) :: xs) (W H b s []) = some (v, W H b s' [])) :
    ∃ H1 H2, Fp (.pointer (pn b) :: xs) H = some (v, H1) ∧ Fr (.pointer (pn c) :: xs) H1 = some (v, H2) ∧ Two n H0 b c s' H2 ∧ To b s' H H1 := by
  have e1 := hp (H := H) h.b_.lt
  rw [W_of h.b_] at e1
  have t1 := To_of (s' := s') h.b_ []
  have hc := t1.other h.c_ h.ne
  have e2 := hr (H := W H b s' []) hc.lt
  rw [W_of hc] at e2
  exact ⟨_, _, e1, e2, h.to t1 (To_of hc []), t1⟩

/-- A call. -/
structure Ac where
  kind : Int
  by_ : Int
  n : Int
  x : Lt
  near : Bool
def Ac.cs (a : Ac) : List Value := [.int .i64 a.kind, .int .i64 a.by_, .int .i64 a.n, .int .i64 a.x.kind, .int .i64 a.x.epoch, .int .i64 a.x.role, .int .i64 a.x.number, .int .i64 a.x.other, .string a.x.text, .bool a.near]

theorem st_new6 (H : Heap) {z : List Value} (hz : z.length = 6) (x : Lt) (k : Value → Heap → R) : st 6 (H ++ [.cells z 0 true]) ⟨H.length, 0, none⟩ (.agg x.cs.toArray) k = k undef (H ++ [bx x]) := by
  have e : (H ++ [AObj.cells z 0 true])[H.length]? = some (.cells z 0 true) := by simp
  simp only [st, e]
  rw [if_pos ⟨rfl, by simp [hz]⟩, List.set_append_right _ _ (Nat.le_refl _)]
  congr 2
  simp only [Nat.sub_self, List.set_cons_zero, putc, splice, bx]
  congr 2
  have : z.drop (0 + x.cs.length) = [] := by rw [List.drop_eq_nil_iff]; simp [Lt.cs, hz]
  simp [this, Lt.cs, hz]
theorem st_epoch (H : Heap) (x : Lt) (n : Int) (k : Value → Heap → R) : st 1 (H ++ [bx x]) ⟨H.length, 0 + 1, none⟩ (.int .i64 n) k = k undef (H ++ [bx { x with epoch := n }]) := by
  have e : (H ++ [bx x])[H.length]? = some (bx x) := by simp
  unfold bx at *
  simp only [st, e]
  rw [if_pos ⟨rfl, by simp [Lt.cs]⟩, List.set_append_right _ _ (Nat.le_refl _)]
  simp [putc, Lt.cs]

theorem r37_10 {n : Nat} {H0 : Heap} {b c : Nat} {s : Pt} {H : Heap} (h : Two n H0 b c s H) (ok : s.Ok) (m : Nat) (x : Lt) (now : Int) {j : Nat} (hj : H[j]? = some (bx x)) (hjb : j ≠ b) (hjc : j ≠ c) :
    ∃ H', R37 (m + 1) td37_10 [.pointer (pn b), .pointer (pn c), .int .i64 now, .pointer (pn j)] H = some (.bool true, H') ∧ Two n H0 b c (hear s x now).2.2 H' := by
  have jl : j < H.length := (List.getElem?_eq_some_iff.1 hj).1
  obtain ⟨H1, e1, t1⟩ := hear27 h.b_ x now
  have hc := t1.other h.c_ h.ne
  have hj1 : H1[j]? = some (bx x) := (t1.keep j jl hjb).trans hj
  obtain ⟨g', e2⟩ := w63 (s := s) hc.lt x now
  rw [W_of hc] at e2
  refine ⟨_, ?_, h.to t1 (To_of hc g')⟩
  rw [c37_10]
  have e1' : F27 [.pointer (pn b), .agg x.cs.toArray, .int .i64 now] H = _ := e1
  unfold pn at *
  simp (disch := first | with_reducible assumption | decide) only [↓onSome_some, ↓kInt_int, ↓kBool_bool, ↓kStr_str, ↓kTup_tup, ↓kPtr_ptr, ↓o0, ↓o1, ↓o2, ↓o3, ↓o4, ↓o5, ↓o6, ↓o7, ↓o8, ↓y0, ↓y1, ↓y2, ↓y3, ↓y4, ↓y5, ↓ldc_bx hj, ↓ldc_bx hj1, ↓if_pos (len_x x), range_x, ↓on_of e1', ↓on_of e2, hearV, List.getElem?_toArray, List.getElem?_cons_zero, List.getElem?_cons_succ, beq_self_eq_true]

theorem act_near (a : Ac) : a.cs[0 + 9]? = some (.bool a.near) := rfl
theorem act_kind (a : Ac) : a.cs[0]? = some (.int .i64 a.kind) := rfl
theorem act_n (a : Ac) : a.cs[0 + 2]? = some (.int .i64 a.n) := rfl
theorem act_len (a : Ac) : 0 + 3 + 6 ≤ a.cs.length := by simp [Ac.cs]
theorem act_x (a : Ac) : range a.cs (0 + 3) 6 = a.x.cs := rfl

theorem step37 {n : Nat} {H0 : Heap} {b c : Nat} {s : Pt} {H : Heap} (h0 : Two n H0 b c s H) (ok : s.Ok) (a : Ac) (now : Int) :
    ∃ H' s', F37 [.pointer (pn b), .pointer (pn c), .agg a.cs.toArray, .int .i64 now] H = some (.bool true, H') ∧ Two n H0 b c s' H' ∧ s'.Ok := by
  have e := t37 1 (pn b) (pn c) a.kind a.by_ a.n a.x.kind a.x.epoch a.x.role a.x.number a.x.other a.x.text a.near now H
  have f : ∀ r, fnE Try.prog G37 Try.f37 cuts37 1 [.pointer (pn b), .pointer (pn c), .agg a.cs.toArray, .int .i64 now] H = some r → F37 [.pointer (pn b), .pointer (pn c), .agg a.cs.toArray, .int .i64 now] H = some r := fun r h => FN_of 1 h (Nat.le_of_ble_eq_true (by kernel_rfl))
  have eb : AObj.cells [.int .i64 a.kind, .int .i64 a.by_, .int .i64 a.n, .int .i64 a.x.kind, .int .i64 a.x.epoch, .int .i64 a.x.role, .int .i64 a.x.number, .int .i64 a.x.other, .string a.x.text, .bool a.near] 0 true = .cells a.cs 0 true := rfl
  rw [eb] at e
  simp only [] at e
  have h := h0.push [.cells a.cs 0 true]
  have la : (H ++ [AObj.cells a.cs 0 true])[H.length]? = some (.cells a.cs 0 true) := by simp
  have hbl := h0.b_.lt
  have hcl := h0.c_.lt
  generalize hH : H ++ [AObj.cells a.cs 0 true] = H1 at *
  have e23 := among23 H1 a.kind 8 (by omega) (by omega)
  generalize into a.kind 8 = k at e23
  simp (disch := first | with_reducible assumption | decide) only [↓onSome_some, ↓kInt_int, ↓kBool_bool, ↓kStr_str, ↓kTup_tup, ↓kPtr_ptr, ↓o0, ↓o1, ↓o2, ↓o3, ↓o4, ↓o5, ↓o6, ↓o7, ↓o8, ↓y0, ↓y1, ↓y2, ↓y3, ↓y4, ↓y5, ↓ldc_at la, act_kind, ↓on_of e23] at e
  have e' := fun r h => f r (e.trans h)
  clear e f
  rcases Bool.eq_false_or_eq_true (k == 0) with k0 | k0
  · obtain ⟨H2, H3, e1, e2, t, _⟩ := pair h (Fp := F40) (Fr := F61) (xs := [.int .i64 now]) (fun hb => w40 hb now) (fun hb => w61 hb now)
    refine ⟨_, _, e' _ ?_, t, ok_boot ok now⟩
    simp only [k0, ↓onSome_some, ↓kInt_int, ↓kBool_bool, ↓kStr_str, ↓kTup_tup, ↓kPtr_ptr, ↓o0, ↓o1, ↓o2, ↓o3, ↓o4, ↓o5, ↓o6, ↓o7, ↓o8, ↓y0, ↓y1, ↓y2, ↓y3, ↓y4, ↓y5, ↓on_of e1, ↓on_of e2, beq_self_eq_true]
  rcases Bool.eq_false_or_eq_true (k == 1) with k1 | k1
  · obtain ⟨H2, H3, e1, e2, t, t1⟩ := pair h (Fp := F26) (Fr := F62) (xs := [.int .i64 a.n, .int .i64 now]) (fun hb => w26 hb _ now) (fun hb => w62 hb _ now)
    have la2 : H2[H.length]? = H1[H.length]? := t1.keep _ (List.getElem?_eq_some_iff.1 la).1 (by omega)
    refine ⟨_, _, e' _ ?_, t, ok_join ok a.n now⟩
    simp only [k0, k1, ↓onSome_some, ↓kInt_int, ↓kBool_bool, ↓kStr_str, ↓kTup_tup, ↓kPtr_ptr, ↓o0, ↓o1, ↓o2, ↓o3, ↓o4, ↓o5, ↓o6, ↓o7, ↓o8, ↓y0, ↓y1, ↓y2, ↓y3, ↓y4, ↓y5, ↓ldc_at la, act_n, ↓on_of e1, unt, if_pos la2, ↓on_of e2, beq_self_eq_true]
  rcases Bool.eq_false_or_eq_true (k == 2) with k2 | k2
  · have hj : (H1 ++ [bx a.x])[H.length]? = some (.cells a.cs 0 true) := heap_keep la _
    have h2 := h.push [bx a.x]
    have z6 : ([.int .i64 0, .int .i64 0, .int .i64 0, .int .i64 0, .int .i64 0, .string (⟨#[]⟩ : ByteArray)] : List Value).length = 6 := rfl
    have hb1 := h.b_.lt
    have hc1 := h.c_.lt
    rcases Bool.eq_false_or_eq_true a.near with hn | hn
    · have e23b := among23 (H1 ++ [bx a.x]) a.x.epoch 4 (by omega) (by omega)
      let x2 : Lt := { a.x with epoch := mxi 0 (IntKind.i64.wrap (IntKind.i64.wrap (s.epoch + into a.x.epoch 4) - 1)) }
      obtain ⟨H3, e3, t3⟩ := r37_10 (h.push [bx x2]) ok 0 x2 now (j := H1.length) (by simp) (by omega) (by omega)
      refine ⟨_, _, e' _ ?_, t3, ok_hear ok x2 now⟩
      have lx : (H1 ++ [bx a.x])[H1.length]? = some (bx a.x) := by simp
      simp (disch := first | with_reducible assumption | decide) only [k0, k1, k2, ↓onSome_some, ↓kInt_int, ↓kBool_bool, ↓kStr_str, ↓kTup_tup, ↓kPtr_ptr, ↓o0, ↓o1, ↓o2, ↓o3, ↓o4, ↓o5, ↓o6, ↓o7, ↓o8, ↓y0, ↓y1, ↓y2, ↓y3, ↓y4, ↓y5, ↓ldc_at la, ↓if_pos (act_len a), act_x, ↓st_new6 _ z6, ↓ldc_at hj, act_near, hn, pn]
      simp (disch := first | with_reducible assumption | decide) only [↓onSome_some, ↓kInt_int, ↓kBool_bool, ↓kStr_str, ↓kTup_tup, ↓kPtr_ptr, ↓o0, ↓o1, ↓o2, ↓o3, ↓o4, ↓o5, ↓o6, ↓o7, ↓o8, ↓y0, ↓y1, ↓y2, ↓y3, ↓y4, ↓y5, ↓ldc_pt h2.c_, ↓ldc_bx lx, ↓on_of e23b, unt, if_true, ↓st_epoch]
      exact e3
    · obtain ⟨H3, e3, t3⟩ := r37_10 h2 ok 0 a.x now (j := H1.length) (by simp) (by omega) (by omega)
      refine ⟨_, _, e' _ ?_, t3, ok_hear ok a.x now⟩
      simp (disch := first | with_reducible assumption | decide) only [k0, k1, k2, ↓onSome_some, ↓kInt_int, ↓kBool_bool, ↓kStr_str, ↓kTup_tup, ↓kPtr_ptr, ↓o0, ↓o1, ↓o2, ↓o3, ↓o4, ↓o5, ↓o6, ↓o7, ↓o8, ↓y0, ↓y1, ↓y2, ↓y3, ↓y4, ↓y5, ↓ldc_at la, ↓if_pos (act_len a), act_x, ↓st_new6 _ z6, ↓ldc_at hj, act_near, hn, pn]
      exact e3
  rcases Bool.eq_false_or_eq_true (k == 3) with k3 | k3
  · obtain ⟨H2, H3, e1, e2, t, _⟩ := pair h (Fp := F54) (Fr := F64) (xs := [.int .i64 now]) (fun hb => w54 hb now) (fun hb => w64 hb now)
    refine ⟨_, _, e' _ ?_, t, ok_sync ok now⟩
    simp only [k0, k1, k2, k3, ↓onSome_some, ↓kInt_int, ↓kBool_bool, ↓kStr_str, ↓kTup_tup, ↓kPtr_ptr, ↓o0, ↓o1, ↓o2, ↓o3, ↓o4, ↓o5, ↓o6, ↓o7, ↓o8, ↓y0, ↓y1, ↓y2, ↓y3, ↓y4, ↓y5, ↓on_of e1, ↓on_of e2, beq_self_eq_true]
  rcases Bool.eq_false_or_eq_true (k == 4) with k4 | k4
  · obtain ⟨H2, e1, t1⟩ := granted29 h.b_ now
    have hc := t1.other h.c_ h.ne
    have e2 := w65 (s := s) (g := []) ok hc.lt now
    rw [W_of hc] at e2
    refine ⟨_, _, e' _ ?_, h.to t1 (To_of hc []), ok_granted ok now⟩
    have e1' : F29 [.pointer (pn b), .int .i64 now] H1 = _ := e1
    simp only [k0, k1, k2, k3, k4, ↓onSome_some, ↓kInt_int, ↓kBool_bool, ↓kStr_str, ↓kTup_tup, ↓kPtr_ptr, ↓o0, ↓o1, ↓o2, ↓o3, ↓o4, ↓o5, ↓o6, ↓o7, ↓o8, ↓y0, ↓y1, ↓y2, ↓y3, ↓y4, ↓y5, ↓on_of e1', ↓on_of e2, beq_self_eq_true]
  rcases Bool.eq_false_or_eq_true (k == 5) with k5 | k5
  · obtain ⟨H2, H3, e1, e2, t, _⟩ := pair h (Fp := F66) (Fr := F67) (xs := []) (fun hb => w66 hb) (fun hb => w67 hb)
    refine ⟨_, _, e' _ ?_, t, ok_fence ok⟩
    simp only [k0, k1, k2, k3, k4, k5, ↓onSome_some, ↓kInt_int, ↓kBool_bool, ↓kStr_str, ↓kTup_tup, ↓kPtr_ptr, ↓o0, ↓o1, ↓o2, ↓o3, ↓o4, ↓o5, ↓o6, ↓o7, ↓o8, ↓y0, ↓y1, ↓y2, ↓y3, ↓y4, ↓y5, ↓on_of e1, ↓on_of e2, beq_self_eq_true]
  rcases Bool.eq_false_or_eq_true (k == 7) with k7 | k7
  · obtain ⟨H2, H3, e1, e2, t, _⟩ := pair h (Fp := F68) (Fr := F69) (xs := [.int .i64 now]) (fun hb => w68 hb now) (fun hb => w69 ok hb now)
    refine ⟨_, _, e' _ ?_, t, ok_drops ok now⟩
    simp only [k0, k1, k2, k3, k4, k5, k7, ↓onSome_some, ↓kInt_int, ↓kBool_bool, ↓kStr_str, ↓kTup_tup, ↓kPtr_ptr, ↓o0, ↓o1, ↓o2, ↓o3, ↓o4, ↓o5, ↓o6, ↓o7, ↓o8, ↓y0, ↓y1, ↓y2, ↓y3, ↓y4, ↓y5, ↓on_of e1, ↓on_of e2, beq_self_eq_true]
  · obtain ⟨H2, H3, e1, e2, t, _⟩ := pair h (Fp := F70) (Fr := F71) (xs := []) (fun hb => w70 hb) (fun hb => w71 hb)
    refine ⟨_, _, e' _ ?_, t, ok_crash ok⟩
    simp only [k0, k1, k2, k3, k4, k5, k7, ↓onSome_some, ↓kInt_int, ↓kBool_bool, ↓kStr_str, ↓kTup_tup, ↓kPtr_ptr, ↓o0, ↓o1, ↓o2, ↓o3, ↓o4, ↓o5, ↓o6, ↓o7, ↓o8, ↓y0, ↓y1, ↓y2, ↓y3, ↓y4, ↓y5, ↓on_of e1, ↓on_of e2, beq_self_eq_true]
end Go.Proofs.Yticchkdbanhjfaa
