/- r4a: TopClaims: what it comes to, whatever its input. Conditions: none. -/
import Derived.Test.YtgnkjpbecgpjoaaGreatDoorTc1
import Derived.Test.YtgnkjpbecgpjoaaGreatDoorTcp
import Derived.Test.YtgnkjpbecgpjoaaGreatDoorLz5
set_option linter.unusedVariables false
set_option linter.unusedSimpArgs false
namespace Go.Proofs.YtgnkjpbecgpjoaaGreatDoor
open Go Go.Proofs.YtgnkjpbecgpjoaaGreatDoor.Fw Go.RowKit
theorem FL_code {P : Program} {E : Tr Ent} {m f : Nat} {c : FCode} {fn : Func} {args : List Value} {H : Heap} (h1 : E.get f = some (.code c)) (h2 : P.funcs[f]? = some fn) : FL P E (m + 1) f args H = FN P (fun g => some (FL P E m g)) fn c.cuts args H := by
  simp only [FL, h1, h2]
theorem wrap_id {x : Int} (h : -9223372036854775808 ≤ x ∧ x < 9223372036854775808) : IntKind.wrap .i64 x = x := wrap_in h
theorem arV_ii {β : Type} {op : BinOp} {a b : Int} {k : Value → Option β} : arV op .i64 (.int .i64 a) (.int .i64 b) k = binInt op .i64 a b k := by unfold arV; rfl
theorem among (x : Int) : ∃ n : Nat, n < 3 ∧ ∀ H, FL Tryz.prog EE 300 9 [.int .i64 x, .int .i64 3] H = some (.int .i64 (.ofNat n), H) := by
  obtain ⟨fn, q1, q2, q3, q4, q5⟩ := K9.ex
  have hg : EE.get 9 = some (.code k9) := by kernel_rfl
  have key : ∀ v H, (∀ Γ J, (X9 [.int .i64 x, .int .i64 3]).run Tryz.prog Γ J H = some (v, H)) → FL Tryz.prog EE 300 9 [.int .i64 x, .int .i64 3] H = some (v, H) := fun v H h => by
    have hx : (k9.X [.int .i64 x, .int .i64 3]).run Tryz.prog (fun g => some (FL Tryz.prog EE 299 g)) (fun key vs H => run Tryz.prog (fun g => some (FL Tryz.prog EE 299 g)) fn k9.cuts 1 (k9.td key) vs H) H = some (v, H) := h _ _
    obtain ⟨h6, h7⟩ := q4 _ (run Tryz.prog _ fn k9.cuts 1) _ _ _ hx
    exact (FL_code hg q1).trans (FN_of 1 h6 h7)
  have h1 := Int.lt_tmod_of_pos x (b := 3) (by decide)
  have h2 := Int.tmod_lt_of_pos x (b := 3) (by decide)
  have h3 : 0 ≤ (x.tmod 3 + 3).tmod 3 := Int.tmod_nonneg _ (by omega)
  have h4 := Int.tmod_lt_of_pos (x.tmod 3 + 3) (b := 3) (by decide)
  refine ⟨((x.tmod 3 + 3).tmod 3).toNat, by omega, fun H => key _ H fun Γ J => ?_⟩
  have h5 : Int.ofNat ((x.tmod 3 + 3).tmod 3).toNat = (x.tmod 3 + 3).tmod 3 := Int.toNat_of_nonneg h3
  rw [h5]
  have h29 : ¬ ((3 : Int) = 0) := by decide
  simp only [X9, M.run, arV_ii, binInt, if_neg h29, wrap_id (show -9223372036854775808 ≤ x.tmod 3 + 3 ∧ x.tmod 3 + 3 < 9223372036854775808 by omega)]
section
variable {fr : Frs} {l c : Nat}
/-- The end. -/
theorem at49 (H : Heap) : Gl Tryz.prog 3 Tryz.f3 k3.cuts fr (k3.td 49) [] H (.bool true) :=
  Gl.of_end EE_ok C3 (m := 300) (H' := H) rfl (by rfl)
/-- A round of the law: who claims is drawn of the row. -/
theorem round {i : Nat} {T : KH} {xs : List Int} (hm : 0 < l → (9, AObj.cells (xs.map (Value.int .i64)) 1 false) ∈ fr) (hl : l ≤ xs.length) (hT : T.H[9]? = some .dead) (h : i < 12 → ∀ o, o < 3 → G fr l c 24 (a24 o i) T) : G fr l c 100021 (hd i) T := by
  have hlt : 9 < T.H.length := (List.getElem?_eq_some_iff.1 hT).1
  have e49 : ∀ H, Jl Tryz.prog 3 Tryz.f3 k3.cuts fr (.bool true) (mk0, []) (k3.td 49) [] H = some (mk0, []) := fun H => Jl.of (at49 H)
  by_cases h1 : i < l
  · refine Gl.row (hm (by omega)) rfl hlt ?_
    refine Gl.of_text EE_ok C3 (m := 300) ?_
    show (X3_100021 (sl0 l c :: hd i)).run _ _ _ _ = _
    have c1 : cmpB .lss (Int.ofNat i) ((l : Nat) : Int) = true := decide_eq_true (show (i : Int) < l by omega)
    by_cases h2 : i < 12
    · obtain ⟨x, hx⟩ : ∃ x, xs[i]? = some x := ⟨xs[i]'(by omega), by simp⟩
      obtain ⟨o, ho, h9⟩ := among x
      have hc : (xs.map (Value.int .i64))[i]? = some (.int .i64 x) := by simp [hx]
      have hs : (T.H.set 9 (AObj.cells (xs.map (Value.int .i64)) 1 false))[9]? = some (.cells (xs.map (Value.int .i64)) 1 false) := List.getElem?_set_self hlt
      have c2 : cmpB .lss (Int.ofNat i) 12 = true := decide_eq_true (show (i : Int) < 12 by omega)
      have c3 : 0 ≤ Int.ofNat i ∧ Int.ofNat i < (l : Nat) := by show 0 ≤ (i : Int) ∧ (i : Int) < l; omega
      have hk : Kill (T.H.set 9 (AObj.cells (xs.map (Value.int .i64)) 1 false)) T.H := ⟨by simp, fun j y hy => by
        by_cases e : j = 9
        · subst e; rw [hT] at hy; exact .inl (Option.some.inj hy).symm
        · exact .inr (by rw [List.getElem?_set_ne (Ne.symm e)]; exact hy)⟩
      have hG := Gl.kill (h h2 o ho) hk
      have e24 : Jl Tryz.prog 3 Tryz.f3 k3.cuts fr (.bool true) (mk0, []) (k3.td 24) (sl0 l c :: a24 o i) (T.H.set 9 (AObj.cells (xs.map (Value.int .i64)) 1 false)) = some (mk0, []) := Jl.of hG
      have tn : (Int.ofNat i).toNat = i := rfl
      have ab : ((⟨9, 0, none⟩ : Addr).add i).block = 9 := by unfold Addr.add; split <;> rfl
      have ao : ((⟨9, 0, none⟩ : Addr).add i).off = i := by
        unfold Addr.add
        split
        · rename_i e; exact e.symm
        · exact Nat.zero_add i
      simp only [X3_100021, M.run, Fw.kSl, Fw.kPtr, Fw.kInt, if_true, c1, c2, onSome, if_pos c3, Fw.ldc, tn, Nat.mul_one, ab, ao, hs, hc, kIntS, FLs, h9]
      exact e24
    · have c2 : cmpB .lss (Int.ofNat i) 12 = false := decide_eq_false (show ¬ (i : Int) < 12 by omega)
      simp only [X3_100021, M.run, Fw.kSl, Fw.kPtr, Fw.kInt, if_true, c1, c2]
      exact e49 _
  · refine Gl.of_text EE_ok C3 (m := 300) ?_
    show (X3_100021 (sl0 l c :: hd i)).run _ _ _ _ = _
    have c1 : cmpB .lss (Int.ofNat i) ((l : Nat) : Int) = false := decide_eq_false (show ¬ (i : Int) < l by omega)
    simp only [X3_100021, M.run, Fw.kSl, Fw.kPtr, Fw.kInt, if_true, c1]
    exact e49 _
theorem loop (hF : F9 fr) {xs : List Int} (hm : 0 < l → (9, AObj.cells (xs.map (Value.int .i64)) 1 false) ∈ fr) (hl : l ≤ xs.length) : G fr l c 100021 (hd 0) S0 := by
  have g12 : G fr l c 100021 (hd 12) S12 := round hm hl ((KH.at_ S12 9).trans (by kernel_rfl)) fun h => absurd h (by omega)
  have g11 : G fr l c 100021 (hd 11) S11 := round hm hl ((KH.at_ S11 9).trans (by kernel_rfl)) fun _ o ho => match o, ho with
    | 0, _ => tcC11_0 hF g12
    | 1, _ => tcC11_1 hF g12
    | 2, _ => tcC11_2 hF g12
    | o + 3, h => absurd h (by omega)
  have g10 : G fr l c 100021 (hd 10) S10 := round hm hl ((KH.at_ S10 9).trans (by kernel_rfl)) fun _ o ho => match o, ho with
    | 0, _ => tcC10_0 hF g11
    | 1, _ => tcC10_1 hF g11
    | 2, _ => tcC10_2 hF g11
    | o + 3, h => absurd h (by omega)
  have g9 : G fr l c 100021 (hd 9) S9 := round hm hl ((KH.at_ S9 9).trans (by kernel_rfl)) fun _ o ho => match o, ho with
    | 0, _ => tcC9_0 hF g10
    | 1, _ => tcC9_1 hF g10
    | 2, _ => tcC9_2 hF g10
    | o + 3, h => absurd h (by omega)
  have g8 : G fr l c 100021 (hd 8) S8 := round hm hl ((KH.at_ S8 9).trans (by kernel_rfl)) fun _ o ho => match o, ho with
    | 0, _ => tcC8_0 hF g9
    | 1, _ => tcC8_1 hF g9
    | 2, _ => tcC8_2 hF g9
    | o + 3, h => absurd h (by omega)
  have g7 : G fr l c 100021 (hd 7) S7 := round hm hl ((KH.at_ S7 9).trans (by kernel_rfl)) fun _ o ho => match o, ho with
    | 0, _ => tcC7_0 hF g8
    | 1, _ => tcC7_1 hF g8
    | 2, _ => tcC7_2 hF g8
    | o + 3, h => absurd h (by omega)
  have g6 : G fr l c 100021 (hd 6) S6 := round hm hl ((KH.at_ S6 9).trans (by kernel_rfl)) fun _ o ho => match o, ho with
    | 0, _ => tcC6_0 hF g7
    | 1, _ => tcC6_1 hF g7
    | 2, _ => tcC6_2 hF g7
    | o + 3, h => absurd h (by omega)
  have g5 : G fr l c 100021 (hd 5) S5 := round hm hl ((KH.at_ S5 9).trans (by kernel_rfl)) fun _ o ho => match o, ho with
    | 0, _ => tcC5_0 hF g6
    | 1, _ => tcC5_1 hF g6
    | 2, _ => tcC5_2 hF g6
    | o + 3, h => absurd h (by omega)
  have g4 : G fr l c 100021 (hd 4) S4 := round hm hl ((KH.at_ S4 9).trans (by kernel_rfl)) fun _ o ho => match o, ho with
    | 0, _ => tcC4_0 hF g5
    | 1, _ => tcC4_1 hF g5
    | 2, _ => tcC4_2 hF g5
    | o + 3, h => absurd h (by omega)
  have g3 : G fr l c 100021 (hd 3) S3 := round hm hl ((KH.at_ S3 9).trans (by kernel_rfl)) fun _ o ho => match o, ho with
    | 0, _ => tcC3_0 hF g4
    | 1, _ => tcC3_1 hF g4
    | 2, _ => tcC3_2 hF g4
    | o + 3, h => absurd h (by omega)
  have g2 : G fr l c 100021 (hd 2) S2 := round hm hl ((KH.at_ S2 9).trans (by kernel_rfl)) fun _ o ho => match o, ho with
    | 0, _ => tcC2_0 hF g3
    | 1, _ => tcC2_1 hF g3
    | 2, _ => tcC2_2 hF g3
    | o + 3, h => absurd h (by omega)
  have g1 : G fr l c 100021 (hd 1) S1 := round hm hl ((KH.at_ S1 9).trans (by kernel_rfl)) fun _ o ho => match o, ho with
    | 0, _ => tcC1_0 hF g2
    | 1, _ => tcC1_1 hF g2
    | 2, _ => tcC1_2 hF g2
    | o + 3, h => absurd h (by omega)
  have g0 : G fr l c 100021 (hd 0) S0 := round hm hl ((KH.at_ S0 9).trans (by kernel_rfl)) fun _ o ho => match o, ho with
    | 0, _ => tcC0_0 hF g1
    | 1, _ => tcC0_1 hF g1
    | 2, _ => tcC0_2 hF g1
    | o + 3, h => absurd h (by omega)
  exact g0
end
theorem Gc.kill {P : Program} {f : FuncId} {fr : Frs} {args : List Value} {H H2 : Heap} {u : Value} (h : Gc P f fr args H2 u) (k : Kill H H2) : Gc P f fr args H u := fun ρ w args' hR hf hv =>
  Calls.mono' (h ρ w args' (hR.dies k) (hf.owns (fun j hj => hj.kill k) fun _ _ => rfl) hv) fun e w' ⟨v', h1, h2⟩ => ⟨v', h1, h2.owns fun j hj => hj.kill k⟩
theorem isT_out {r : KR} (h : isT r = true) : ∃ T, r = some (.bool true, T) := by
  unfold isT at h
  split at h
  · exact ⟨_, rfl⟩
  · cases h
theorem T10_H {p : Pl} : iniH (globL ++ [(p, AObj.dead)]) = T10.H := by
  apply List.ext_getElem?
  intro i
  rw [KH.at_]
  match i with
  | 0 => rfl
  | 1 => rfl
  | 2 => rfl
  | 3 => rfl
  | 4 => rfl
  | 5 => rfl
  | 6 => rfl
  | 7 => rfl
  | 8 => rfl
  | 9 => rfl
  | i + 10 => rw [if_neg (show ¬ i + 10 < T10.n from by show ¬ i + 10 < 10; omega)]; simp [globL, iniH]
theorem T10_kill {p : Pl} {o : AObj} : Kill (iniH (globL ++ [(p, o)])) T10.H := by
  refine ⟨by rw [KH.len]; rfl, fun i y h => ?_⟩
  rw [KH.at_] at h
  split at h
  · have : (T10.t.get i) = none := by cases i <;> rfl
    rw [this] at h
    exact .inl (Option.some.inj h).symm
  · cases h
abbrev recI (x : Int) : List Value := [.int .i64 x]
theorem recI_inv : ∀ e, Flat [.int .i64] e → ∃ x, e = recI x := fun e h => by
  obtain ⟨v, l, rfl, ⟨n, rfl, _⟩, h2⟩ := h.cons_inv
  obtain rfl := h2.nil_inv
  exact ⟨n, rfl⟩
theorem recI_all : ∀ {es : List (List Value)}, (∀ e ∈ es, Flat [.int .i64] e) → ∃ xs : List Int, es = xs.map recI
  | [], _ => ⟨[], rfl⟩
  | e :: es, h => by
    obtain ⟨x, rfl⟩ := recI_inv e (h e (List.mem_cons_self ..))
    obtain ⟨xs, rfl⟩ := recI_all fun e' he => h e' (List.mem_cons_of_mem _ he)
    exact ⟨x :: xs, rfl⟩
theorem recI_flat : ∀ xs : List Int, (xs.map recI).flatten = xs.map (Value.int .i64)
  | [] => rfl
  | x :: xs => by rw [List.map_cons, List.flatten_cons, recI_flat xs]; rfl
theorem main3 {W : World} {a : Option Addr} {len cap : Nat} {es : List (List Value)} (r : RowE W a len cap 1 es) (hes : ∀ e ∈ es, Flat [.int .i64] e) :
    Calls Tryz.prog 3 #[.slice a len cap] W fun e w' => e = .returned (.bool true) ∧ Below W.heap.size W w' := by
  obtain ⟨xs, hx⟩ := recI_all hes
  cases a with
  | none =>
    obtain ⟨rfl, rfl⟩ : len = 0 ∧ cap = 0 := by
      rcases r with ⟨_, h1, h2, _⟩ | ⟨x, h, _⟩
      · exact ⟨h1, h2⟩
      · cases h
    obtain ⟨T, e⟩ := isT_out nil3
    have g := kcall_sound EE_ok 301 3 _ _ _ _ e
    refine law_calls (FL_sound EE_ok 301 3) Tryz.func3 (by kernel_rfl) (by kernel_rfl) (L := globL ++ [(⟨0, 0, 0, 0⟩, .dead)]) (w := W) (args' := [.slice none 0 0]) (globL_glob _) (fun x hx => ?_) (VL.cons .sliceN VL.nil) (by rw [T10_H]; exact g)
    rcases List.mem_append.1 hx with hx | hx
    · exact globL_ok x hx
    · obtain rfl := List.mem_singleton.1 hx
      exact ⟨rfl, fun ρ => trivial⟩
  | some x =>
    have hle : len ≤ xs.length := by
      rcases r with ⟨h, _⟩ | ⟨x', _, h1, h2, _⟩
      · cases h
      · rw [hx, List.length_map] at h2; omega
    have hfl : es.flatten = xs.map (Value.int .i64) := by rw [hx]; exact recI_flat xs
    let L : List (Pl × AObj) := globL ++ [(rowPlE W (some x) 1, rowObjE 1 es.flatten)]
    have hL : ∀ y ∈ L, y.2.own = false ∧ ∀ ρ, OR ρ W y.1 y.2 := fun y hy => by
      rcases List.mem_append.1 hy with hy | hy
      · exact globL_ok y hy
      · obtain rfl := List.mem_singleton.1 hy
        exact ⟨rowObjE_own _ _, fun ρ => r.obj (by decide) ρ⟩
    have key : ∀ fr : Frs, F9 fr → (0 < len → (9, AObj.cells (xs.map (Value.int .i64)) 1 false) ∈ fr) → FrOK fr (ini L) (iniH L) W →
        Calls Tryz.prog 3 #[.slice (some x) len cap] W fun e w' => e = .returned (.bool true) ∧ Below W.heap.size W w' := fun fr hF hm hfr => by
      have hG := Gc.kill (pre (l := len) (c := cap) hF (loop hF hm hle)) (T10_kill (p := rowPlE W (some x) 1) (o := rowObjE 1 es.flatten))
      refine Calls.mono' (hG (ini L) W [.slice (some x) len cap] (ini_rel (globL_glob _) hL) hfr (VL.cons (r.val (by decide) rfl) VL.nil)) ?_
      rintro e w' ⟨v', rfl, rfl, h2, h3, h4, h5, h6⟩
      exact ⟨rfl, h4, h5, h6, h2, fun k hk => h3 k hk (ini_owns hL k)⟩
    cases xs with
    | nil => exact key [] (fun y hy => by cases hy) (fun h => by simp at hle; omega) (FrOK.nil _ _ _)
    | cons x0 xs =>
      refine key [(9, .cells ((x0 :: xs).map (Value.int .i64)) 1 false)] (fun y hy => by obtain rfl := List.mem_singleton.1 hy; exact List.mem_singleton.2 rfl) (fun _ => List.mem_singleton.2 rfl) fun y hy => ?_
      obtain rfl := List.mem_singleton.1 hy
      obtain ⟨x', c, el, fz, e1, e2, e3, _⟩ := r.cells hfl
      refine ⟨rowPlE W (some x) 1, rfl, fun ρ => ?_, ?_, fun k hk => absurd hk (ini_owns hL k)⟩
      · have := r.obj (by decide) ρ
        rw [hfl] at this; exact this
      · obtain rfl := Option.some.inj e1
        exact (Array.getElem?_eq_some_iff.1 e3).1
end Go.Proofs.YtgnkjpbecgpjoaaGreatDoor
