/- The parts of role: Hear and Granted. -/
import Derived.Test.YticchkdbanhjfaaRo2
set_option linter.unusedVariables false
set_option linter.unusedSimpArgs false
namespace Go.Proofs.Yticchkdbanhjfaa
open Go Go.RowKit Go.Proofs.Yticchkdbanhjfaa.Fw

theorem ldc_bx {H : Heap} {j : Nat} {x : Lt} (h : H[j]? = some (bx x)) (k : List Value → Option (Value × Heap)) : ldc H j k = k x.cs := ldc_at h k

theorem hear27 {H : Heap} {b : Nat} {s : Pt} (h : At H b s) (x : Lt) (now : Int) :
    ∃ H', F27 [pp b, la x, .int .i64 now] H = some (.tuple #[.int .i64 (hear s x now).1, .int .i64 (hear s x now).2.1], H') ∧ To b (hear s x now).2.2 H H' := by
  have e := t27 1 (some ⟨b, 0, none⟩) x.kind x.epoch x.role x.number x.other x.text now H
  have hne : H.length ≠ b := Nat.ne_of_gt h.lt
  have t8 : To b s H (H ++ [bx x]) := To.push h _
  have b8 : (H ++ [bx x])[H.length]? = some (bx x) := by simp
  have t18 : To b s H ((H ++ [bx x]) ++ [bx x]) := t8.trans (To.push t8.at_ _)
  have b18 : ((H ++ [bx x]) ++ [bx x])[H.length]? = some (bx x) := heap_keep b8 _
  have go : fnE Try.prog G27 Try.f27 cuts27 1 [pp b, la x, .int .i64 now] H = _ := e
  simp only [onSome_some] at go
  -- a store goes on past the letter
  have past : ∀ {H1 H2 : Heap} {s2 : Pt}, H1[H.length]? = some (bx x) → To b s2 H1 H2 → H2[H.length]? = some (bx x) := fun {H1 H2 s2} h1 h2 => by
    rw [h2.keep _ (List.getElem?_eq_some_iff.1 h1).1 hne]; exact h1
  have fin : ∀ {r : Value × Heap}, fnE Try.prog G27 Try.f27 cuts27 1 [pp b, la x, .int .i64 now] H = some r → F27 [pp b, la x, .int .i64 now] H = some r := fun hr => FN_of 1 hr (Nat.le_of_ble_eq_true (by kernel_rfl))
  have l8 : ∀ (k : List Value → R), ldc (H ++ [.cells [.int .i64 x.kind, .int .i64 x.epoch, .int .i64 x.role, .int .i64 x.number, .int .i64 x.other, .string x.text] 0 true]) H.length k = k x.cs := fun k => ldc_bx b8 k
  have p8 : ∀ (k : List Value → R), ldc (H ++ [.cells [.int .i64 x.kind, .int .i64 x.epoch, .int .i64 x.role, .int .i64 x.number, .int .i64 x.other, .string x.text] 0 true]) b k = k s.cs := fun k => ldc_pt t8.at_ k
  have e56 : F56 [.agg ((range x.cs 0 6).toArray)] (H ++ [.cells [.int .i64 x.kind, .int .i64 x.epoch, .int .i64 x.role, .int .i64 x.number, .int .i64 x.other, .string x.text] 0 true]) = some (.int .i64 (if x.good then 0 else 240), (H ++ [bx x]) ++ [bx x]) := check56 _ x
  have s2 : s.cs[0 + 2]? = some (.int .i64 s.role) := rfl
  simp only [l8, p8, e56, onSome_some, kInt, if_true, s2] at go
  rw [if_pos (show 0 + 6 ≤ x.cs.length from by simp [Lt.cs])] at go
  unfold hear
  cases h0 : s.role == 0 with
  | true => simp only [h0] at go; exact ⟨_, fin go, t8⟩
  | false =>
    cases h5 : s.role == 5 with
    | true => simp only [h0, h5] at go; exact ⟨_, fin go, t8⟩
    | false =>
      simp only [h0, h5, Bool.or_self, Bool.false_eq_true, if_false] at go ⊢
      cases hg : x.good with
      | false => simp only [hg, Bool.false_eq_true, if_false, show ((240 : Int) != 0) = true from rfl, Bool.not_false, if_true] at go ⊢; exact ⟨_, fin go, t18⟩
      | true =>
        have e55 : F55 [.pointer (some ⟨b, 0, none⟩), .int .i64 now] ((H ++ [bx x]) ++ [bx x]) = some (.int .i64 (tick s now), (H ++ [bx x]) ++ [bx x]) := at55 t18.at_ now
        obtain ⟨H23, t23', e23⟩ := store t18.at_ 4 (tick s now) (by decide)
        have t23 := t18.trans t23'
        have b23 := past b18 t23'
        have e57 : F57 [.pointer (some ⟨b, 0, none⟩), .agg ((range x.cs 0 6).toArray)] H23 = some (.bool (invited (s.set 4 (tick s now)) x), H23 ++ [bx x]) := invited57 t23.at_ x
        have t25 := t23.trans (To.push t23.at_ [bx x])
        have b25 : (H23 ++ [bx x])[H.length]? = some (bx x) := heap_keep b23 _
        have h6 : 0 + 6 ≤ x.cs.length := by simp [Lt.cs]
        simp only [hg, if_true, bne_self_eq_false, e55, onSome_some, kInt, kBool, e23, ldc_bx b23, if_pos h6, e57, Bool.not_true, Bool.false_eq_true, if_false] at go ⊢
        have x1 : x.cs[0 + 1]? = some (.int .i64 x.epoch) := rfl
        have x2 : x.cs[0 + 2]? = some (.int .i64 x.role) := rfl
        have x3 : x.cs[0 + 3]? = some (.int .i64 x.number) := rfl
        have y4 : ∀ (q : Pt), q.cs[0 + 4]? = some (.int .i64 q.now) := fun _ => rfl
        have y3 : ∀ (q : Pt), q.cs[0 + 3]? = some (.int .i64 q.epoch) := fun _ => rfl
        have y2 : ∀ (q : Pt), q.cs[0 + 2]? = some (.int .i64 q.role) := fun _ => rfl
        have inv : invited (s.set 4 (tick s now)) x = invited { s with now := tick s now } x := rfl
        have ask : asked (s.set 4 (tick s now)) x = asked { s with now := tick s now } x := rfl
        rw [inv] at go
        cases hi : invited { s with now := tick s now } x with
        | true =>
          obtain ⟨H31, t31', e31⟩ := store t25.at_ 3 x.epoch (by decide)
          obtain ⟨H37, t37', e37⟩ := store t31'.at_ 5 (tick s now) (by decide)
          simp only [hi, ldc_bx b25, x1, onSome_some, kInt, if_true, e31, ldc_pt t31'.at_, y4] at go ⊢
          have e37' : ∀ (k : Value → Heap → R), st 1 H31 ⟨b, 0 + 5, none⟩ (.int .i64 (((s.set 4 (tick s now)).set 3 x.epoch).now)) k = k undef H37 := e37
          rw [e37'] at go
          exact ⟨_, fin go, t25.trans (t31'.trans t37')⟩
        | false =>
          have e58 : F58 [.pointer (some ⟨b, 0, none⟩), .agg ((range x.cs 0 6).toArray)] (H23 ++ [bx x]) = some (.bool (asked (s.set 4 (tick s now)) x), (H23 ++ [bx x]) ++ [bx x]) := asked58 t25.at_ x
          have t39 := t25.trans (To.push t25.at_ [bx x])
          have b39 : ((H23 ++ [bx x]) ++ [bx x])[H.length]? = some (bx x) := heap_keep b25 _
          simp only [hi, ldc_bx b25, if_pos h6, e58, onSome_some, kBool, Bool.false_eq_true, if_false] at go ⊢
          rw [ask] at go
          cases ha : asked { s with now := tick s now } x with
          | true =>
            obtain ⟨H46, t46', e46⟩ := store t39.at_ 2 4 (by decide)
            obtain ⟨H48, t48', e48⟩ := store t46'.at_ 3 (IntKind.i64.wrap (s.epoch + 1)) (by decide)
            obtain ⟨H56, t56', e56⟩ := store t48'.at_ 7 x.number (by decide)
            obtain ⟨H58, t58', e58⟩ := store t56'.at_ 8 x.number (by decide)
            obtain ⟨H64, t64', e64⟩ := store t58'.at_ 5 (tick s now) (by decide)
            have b48 := past (past b39 t46') t48'
            have b56 := past b48 t56'
            have e48' : ∀ (k : Value → Heap → R), st 1 H46 ⟨b, 0 + 3, none⟩ (.int .i64 (IntKind.i64.wrap ((s.set 4 (tick s now)).epoch + 1))) k = k undef H48 := e48
            have e64' : ∀ (k : Value → Heap → R), st 1 H58 ⟨b, 0 + 5, none⟩ (.int .i64 ((((((s.set 4 (tick s now)).set 2 4).set 3 (IntKind.i64.wrap (s.epoch + 1))).set 7 x.number).set 8 x.number).now)) k = k undef H64 := e64
            simp only [ha, ldc_pt t39.at_, y3, onSome_some, kInt, if_true, e46, e48', ldc_bx b48, x3, e56, unt, b56, e58, ldc_pt t58'.at_, y4, e64'] at go ⊢
            rw [if_pos (b56.trans b48.symm)] at go
            exact ⟨_, fin go, t39.trans (t46'.trans (t48'.trans (t56'.trans (t58'.trans t64'))))⟩
          | false =>
            simp only [ha, ldc_bx b39, x1, x2, ldc_pt t39.at_, y3, y2, onSome_some, kInt, if_true, Bool.false_eq_true, if_false] at go ⊢
            have ye : (s.set 4 (tick s now)).epoch = s.epoch := rfl
            have yr : (s.set 4 (tick s now)).role = s.role := rfl
            rw [ye, yr] at go
            cases he : x.epoch != s.epoch with
            | true => simp only [he, if_true] at go ⊢; exact ⟨_, fin go, t39⟩
            | false =>
              have last : ∀ {s2 : Pt} {H1 : Heap}, To b s2 H H1 → s2.now = tick s now → ∃ H2, (∀ (k : Value → Heap → R), ldc H1 b (fun cs => onSome cs[0 + 4]? fun v => kInt .i64 v fun n => st 1 H1 ⟨b, 0 + 5, none⟩ (.int .i64 n) k) = k undef H2) ∧ To b (s2.set 5 (tick s now)) H H2 := fun {s2 H1} ht hn => by
                obtain ⟨H2, t2, e2⟩ := store ht.at_ 5 (tick s now) (by decide)
                refine ⟨H2, fun k => ?_, ht.trans t2⟩
                simp only [ldc_pt ht.at_, y4, onSome_some, kInt, if_true, hn, e2]
              simp only [he, Bool.false_eq_true, if_false] at go ⊢
              cases hr1 : s.role == 1 with
              | false =>
                obtain ⟨H2, e2, t2⟩ := last t39 rfl
                simp only [hr1, Bool.false_and, Bool.false_eq_true, if_false] at go ⊢
                simp only [ldc_pt t39.at_, y4, onSome_some, kInt, if_true] at go e2
                rw [e2] at go
                exact ⟨_, fin go, t2⟩
              | true =>
                cases hx3 : x.role == 3 with
                | true =>
                  obtain ⟨H80, t80', e80⟩ := store t39.at_ 2 2 (by decide)
                  obtain ⟨H2, e2, t2⟩ := last (t39.trans t80') rfl
                  simp only [hr1, hx3, Bool.and_self, if_true, e80] at go ⊢
                  simp only [ldc_pt t80'.at_, y4, onSome_some, kInt, if_true] at go e2
                  rw [e2] at go
                  exact ⟨_, fin go, t2⟩
                | false =>
                  obtain ⟨H2, e2, t2⟩ := last t39 rfl
                  simp only [hr1, hx3, Bool.and_false, Bool.false_eq_true, if_false] at go ⊢
                  simp only [ldc_pt t39.at_, y4, onSome_some, kInt, if_true] at go e2
                  rw [e2] at go
                  exact ⟨_, fin go, t2⟩

/-- What Granted does. -/
def granted (s0 : Pt) (now : Int) : Int × Pt :=
  if s0.role != 2 && s0.role != 3 then (180, s0)
  else
    let s := { s0 with now := tick s0 now }
    if !((s.role == 2 || s.role == 3) && decide (s.patience ≤ IntKind.i64.wrap (tick s now - s.heard))) || decide (4294967295 ≤ s.epoch) then (261, s)
    else (0, { s with role := 4, epoch := IntKind.i64.wrap (s.epoch + 1), serves := 0 })

theorem granted29 {H : Heap} {b : Nat} {s : Pt} (h : At H b s) (now : Int) : ∃ H', F29 [pp b, .int .i64 now] H = some (.int .i64 (granted s now).1, H') ∧ To b (granted s now).2 H H' := by
  have go : fnE Try.prog G29 Try.f29 cuts29 1 [pp b, .int .i64 now] H = _ := t29 1 (some ⟨b, 0, none⟩) now H
  have fin : ∀ {r : Value × Heap}, fnE Try.prog G29 Try.f29 cuts29 1 [pp b, .int .i64 now] H = some r → F29 [pp b, .int .i64 now] H = some r := fun hr => FN_of 1 hr (Nat.le_of_ble_eq_true (by kernel_rfl))
  have y3 : ∀ (q : Pt), q.cs[0 + 3]? = some (.int .i64 q.epoch) := fun _ => rfl
  have y2 : ∀ (q : Pt), q.cs[0 + 2]? = some (.int .i64 q.role) := fun _ => rfl
  have e55 : F55 [.pointer (some ⟨b, 0, none⟩), .int .i64 now] H = some (.int .i64 (tick s now), H) := at55 h now
  obtain ⟨H1, t1, e1⟩ := store h 4 (tick s now) (by decide)
  have e28 : F28 [.pointer (some ⟨b, 0, none⟩), .int .i64 now] H1 = some (.bool ((s.role == 2 || s.role == 3) && decide (s.patience ≤ IntKind.i64.wrap (tick { s with now := tick s now } now - s.heard))), H1) := suspects28 t1.at_ now
  obtain ⟨H2, t2, e2⟩ := store t1.at_ 2 4 (by decide)
  obtain ⟨H3, t3, e3⟩ := store t2.at_ 3 (IntKind.i64.wrap (s.epoch + 1)) (by decide)
  obtain ⟨H4, t4, e4⟩ := store t3.at_ 7 0 (by decide)
  have e3' : ∀ (k : Value → Heap → R), st 1 H2 ⟨b, 0 + 3, none⟩ (.int .i64 (IntKind.i64.wrap ((s.set 4 (tick s now)).epoch + 1))) k = k undef H3 := e3
  have ye : (s.set 4 (tick s now)).epoch = s.epoch := rfl
  simp only [onSome_some, ldc_pt h, y2, kInt, if_true, e55, e1, e28, kBool, ldc_pt t1.at_, y3, ye, e2, e3, e4] at go
  unfold granted
  simp only []
  cases ha : s.role == 2 with
  | true =>
    have hn : (s.role != 2) = false := by simp [bne, ha]
    simp only [hn, ha, Bool.true_or, Bool.true_and, Bool.false_and, Bool.false_eq_true, if_false] at go ⊢
    cases hd : decide (s.patience ≤ IntKind.i64.wrap (tick { s with now := tick s now } now - s.heard)) with
    | false => simp only [hd, Bool.not_false, Bool.true_or, if_true] at go ⊢; exact ⟨_, fin go, t1⟩
    | true =>
      cases hq : decide (4294967295 ≤ s.epoch) with
      | true => simp only [hd, hq, Bool.not_true, Bool.false_or, if_true] at go ⊢; exact ⟨_, fin go, t1⟩
      | false => simp only [hd, hq, Bool.not_true, Bool.false_or, Bool.false_eq_true, if_false] at go ⊢; exact ⟨_, fin go, t1.trans (t2.trans (t3.trans t4))⟩
  | false =>
    have hn : (s.role != 2) = true := by simp [bne, ha]
    cases hb : s.role == 3 with
    | false =>
      have hn3 : (s.role != 3) = true := by simp [bne, hb]
      simp only [hn, hn3, Bool.and_self, if_true] at go ⊢
      exact ⟨_, fin go, To.refl h⟩
    | true =>
      have hn3 : (s.role != 3) = false := by simp [bne, hb]
      simp only [hn, hn3, ha, hb, Bool.or_true, Bool.true_and, Bool.and_false, Bool.false_eq_true, if_false] at go ⊢
      cases hd : decide (s.patience ≤ IntKind.i64.wrap (tick { s with now := tick s now } now - s.heard)) with
      | false => simp only [hd, Bool.not_false, Bool.true_or, if_true] at go ⊢; exact ⟨_, fin go, t1⟩
      | true =>
        cases hq : decide (4294967295 ≤ s.epoch) with
        | true => simp only [hd, hq, Bool.not_true, Bool.false_or, if_true] at go ⊢; exact ⟨_, fin go, t1⟩
        | false => simp only [hd, hq, Bool.not_true, Bool.false_or, Bool.false_eq_true, if_false] at go ⊢; exact ⟨_, fin go, t1.trans (t2.trans (t3.trans t4))⟩
end Go.Proofs.Yticchkdbanhjfaa
