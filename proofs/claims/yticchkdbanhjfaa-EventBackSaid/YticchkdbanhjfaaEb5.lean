/- EventBack, whole. -/
import Derived.Test.YticchkdbanhjfaaEb4
set_option linter.unusedVariables false
set_option linter.unusedSimpArgs false
namespace Go.Proofs.Yticchkdbanhjfaa
open Go Go.RowKit Go.Proofs.Yticchkdbanhjfaa.Fw
theorem st_now (H : Heap) (x : Ev) (n : Int) (K : Value → Heap → R) : st 1 (H ++ [bx x]) ⟨H.length, 0 + 1, none⟩ (.int .i64 n) K = K undef (H ++ [bx ⟨x.k, n, x.s⟩]) := by
  have h : (H ++ [bx x])[(⟨H.length, 0 + 1, none⟩ : Addr).block]? = some (.cells x.cs 0 true) := bx_at H x
  rw [st_one h (by simp [Ev.cs]) rfl]
  have e : x.cs.set (⟨H.length, 0 + 1, none⟩ : Addr).off (.int .i64 n) = (Ev.mk x.k n x.s).cs := rfl
  rw [e]
  have e2 : AObj.cells (Ev.mk x.k n x.s).cs 0 true = bx ⟨x.k, n, x.s⟩ := rfl
  rw [e2, bx_set]
theorem dec_enc {y : Ev} (h : ok y = true) : decM (enc y) = some y := by
  have := first_enc h []
  rw [List.append_nil] at this
  unfold decM
  rw [this]
theorem add_ok {es : List Ev} {y : Ev} (h : ok y = true) (hn : nowM es ≤ y.n) (hl : es.length < 4096) : addM es y = (es ++ [y], ((es.length + 1 : Nat) : Int), 0) := by
  unfold addM
  rw [h, decide_eq_false (show ¬ (y.n < nowM es) by omega), decide_eq_false (by omega)]
theorem now_snoc (es : List Ev) (y : Ev) : nowM (es ++ [y]) = y.n := by unfold nowM; simp
section
variable {H0 : Heap} {b : Nat}
theorem end26 {N : Nat → Prop} {es : List Ev} {w : Option Addr} {cw : Nat} {H : Heap} (hle : es.length ≤ 40) (hok : ∀ e ∈ es, ok e = true) (hW : Wn H0 N b es w cw H) (x : Int) (m : Nat) (hm : 82 ≤ m) :
    ∃ H', R9 m td9_26 [.int .i64 x, .pointer (some ⟨b, 0, none⟩), .slice w es.length cw] H = some (.bool true, H') := by
  obtain ⟨m, rfl⟩ : ∃ m', m = m' + 1 := ⟨m - 1, by omega⟩
  obtain ⟨y, h1, h2, e23⟩ := among23 H x
  have ew : IntKind.i64.wrap ((1 : Int) + y) = 1 + y := wrap_in ⟨by omega, by omega⟩
  obtain ⟨H', e1⟩ := loopB (H0 := H0) (N := N) (b := b) (w := w) (cw := cw) hle hok (M := 1 + y) ⟨by omega, by omega⟩ es.length 0 m H none 0 (by omega) (by omega) hW (by simpa [fe] using Vec.none 3 H) (fun j q => by cases q)
  rw [show (((0 : Nat) : Int) + 1) = 1 from rfl] at e1
  refine ⟨H', ?_⟩
  rw [c9_26]
  simp only [↓on_of e23, ↓onS, ↓kInt_int, ↓kInt_u8, ↓kBool_bool, ↓kStr_str, ↓kTup_tup, ↓kPtr_ptr, ↓kSl_sl, ↓kAgg_agg, ew]
  exact e1
theorem loopA {a0 : Option Addr} {l c : Nat} {xs : List Ev} (hX : Recs Ev.cs 3 H0 a0 l xs) (hl : l * 32 ≤ 140737488351232) (hA : ∀ x, a0 = some x → x.block < H0.length) (sz : Int) : ∀ (k i m : Nat) (N : Nat → Prop) (es : List Ev) (w : Option Addr) (cw : Nat) (H : Heap) (now : Int),
    i + k = l → i ≤ 40 → es.length ≤ i → (∀ e ∈ es, ok e = true) → nowM es ≤ now → 0 ≤ now → now ≤ 3 * i → 2 * k + 83 ≤ m → Wn H0 N b es w cw H →
    ∃ H', R9 m td9_100014 [.slice a0 l c, .int .i64 sz, .pointer (some ⟨b, 0, none⟩), .slice w es.length cw, .int .i64 now, .int .i64 (i : Int)] H = some (.bool true, H')
  | 0, i, m, N, es, w, cw, H, now, hi, h40, hes, hok, hnow, hn0, hn3, hm, hW => by
    obtain ⟨m, rfl⟩ : ∃ m', m = m' + 1 := ⟨m - 1, by omega⟩
    have e0 := c9_100014 m a0 l c sz (some ⟨b, 0, none⟩) w es.length cw now (i : Int) H
    rw [decide_eq_false (show ¬ ((i : Int) < ((l : Nat) : Int)) by omega)] at e0
    obtain ⟨H', e1⟩ := end26 (by omega) hok hW sz m (by omega)
    exact ⟨H', e0.trans e1⟩
  | k + 1, i, m, N, es, w, cw, H, now, hi, h40, hes, hok, hnow, hn0, hn3, hm, hW => by
    obtain ⟨m, rfl⟩ : ∃ m', m = m' + 1 := ⟨m - 1, by omega⟩
    have e0 := c9_100014 m a0 l c sz (some ⟨b, 0, none⟩) w es.length cw now (i : Int) H
    have hil : i < l := by omega
    rw [decide_eq_true (show (i : Int) < ((l : Nat) : Int) by omega)] at e0
    rcases Nat.lt_or_ge i 40 with hi40 | hi40
    case inr =>
      rw [decide_eq_false (show ¬ ((i : Int) < 40) by omega)] at e0
      obtain ⟨H', e1⟩ := end26 (by omega) hok hW sz m (by omega)
      exact ⟨H', e0.trans e1⟩
    rw [decide_eq_true (show (i : Int) < 40 by omega)] at e0
    obtain ⟨m, rfl⟩ : ∃ m', m = m' + 1 := ⟨m - 1, by omega⟩
    have hx : xs[i]? = some (xs[i]'(by rw [hX.len]; exact hil)) := by simp
    generalize (xs[i]'(by rw [hX.len]; exact hil)) = x at hx
    obtain ⟨p, cs, own, rfl, hc, hcl, hr⟩ := hX.get hx
    have hpl : p.block < H0.length := hA p rfl
    have hcH : H[p.block]? = some (.cells cs 3 own) := (hW.kept _ hpl).trans hc
    have c1 : 0 ≤ (i : Int) ∧ (i : Int) < ((l : Nat) : Int) := ⟨by omega, by omega⟩
    obtain ⟨y, hy⟩ : ∃ y : Ev, y = ⟨x.k, now, x.s⟩ := ⟨_, rfl⟩
    have yn : y.n = now := by rw [hy]
    have eb : AObj.cells ev0.cs 0 true = bx ev0 := rfl
    have stn : ∀ K : Value → Heap → R, st 1 (H ++ [bx x]) ⟨H.length, 0 + 1, none⟩ (.int .i64 now) K = K undef (H ++ [bx y]) := fun K => by rw [hy]; exact st_now H x now K
    have ew : IntKind.i64.wrap ((i : Int) + 1) = ((i + 1 : Nat) : Int) := by rw [wrap_in ⟨by omega, by omega⟩]; omega
    have next : ∀ (N : Nat → Prop) (es : List Ev) (w : Option Addr) (cw : Nat) (H : Heap) (now : Int), es.length ≤ i + 1 → (∀ e ∈ es, ok e = true) → nowM es ≤ now → 0 ≤ now → now ≤ 3 * (i : Int) + 3 → Wn H0 N b es w cw H →
        ∃ H', R9 (m + 1) td9_15 [.slice (some p) l c, .int .i64 sz, .pointer (some ⟨b, 0, none⟩), .slice w es.length cw, .int .i64 now, .int .i64 (i : Int)] H = some (.bool true, H') := fun N es w cw H now h1 h2 h3 h4 h5 h6 => by
      obtain ⟨H', e1⟩ := loopA (c := c) hX hl hA sz k (i + 1) m N es w cw H now (by omega) (by omega) h1 h2 h3 h4 (by omega) (by omega) h6
      refine ⟨H', ?_⟩
      rw [c9_15, ew]
      exact e1
    obtain ⟨g, e43⟩ := enc43 (H ++ [bx y]) y
    obtain ⟨H2, hH2⟩ : ∃ X, X = (H ++ [bx y]) ++ g := ⟨_, rfl⟩
    rw [← hH2] at e43
    have hj : H2[H.length]? = some (bx y) := by rw [hH2, List.append_assoc]; simp
    have hW2 : Wn H0 N b es w cw H2 := by rw [hH2]; exact (hW.push _).push _
    have l2 : H.length < H2.length := (List.getElem?_eq_some_iff.1 hj).1
    simp only [z_cs, eb] at e0
    simp only [↓onS, ↓kInt_int, ↓kInt_u8, ↓kBool_bool, ↓kStr_str, ↓kTup_tup, ↓kPtr_ptr, ↓kSl_sl, ↓kAgg_agg, ↓if_pos c1, Int.toNat_natCast, ↓ldc_add, ↓ldc_at hcH, add_off, ↓if_pos hcl, hr, ↓st_bx (bx_at H ev0), bx_set, stn, ↓ldc_bx (bx_at H y), ↓cond3, range_cs] at e0
    rcases Bool.eq_false_or_eq_true (ok y) with hoky | hoky
    case inr =>
      simp only [hoky] at e43
      simp only [↓on_of e43, ↓onS, ↓kInt_int, ↓kInt_u8, ↓kBool_bool, ↓kStr_str, ↓kTup_tup, ↓kPtr_ptr, ↓kSl_sl, ↓kAgg_agg, List.getElem?_toArray, List.getElem?_cons_zero, List.getElem?_cons_succ, show ((230 : Int) != 0) = true from rfl] at e0
      obtain ⟨H', e1⟩ := next N es w cw H2 now (by omega) hok hnow hn0 (by omega) hW2
      exact ⟨H', e0.trans e1⟩
    simp only [hoky] at e43
    have hel := enc_le hoky
    obtain ⟨g2, e42⟩ := dec42 H2 (enc y) (by omega)
    rw [dec_enc hoky] at e42
    obtain ⟨H3, hH3⟩ : ∃ X, X = H2 ++ g2 := ⟨_, rfl⟩
    rw [← hH3] at e42
    have l3 : H2.length ≤ H3.length := by rw [hH3]; simp
    have hj3 : (H3 ++ [bx y])[H.length]? = some (bx y) := by rw [List.getElem?_append_left (by omega), hH3, List.getElem?_append_left l2]; exact hj
    have hW3 : Wn H0 N b es w cw (H3 ++ [bx y]) := by rw [hH3]; exact (hW2.push _).push _
    obtain ⟨N', H4, e14, L4, G4'⟩ := add14 hW3.lg (by omega) y
    rw [add_ok hoky (by rw [yn]; exact hnow) (by omega)] at e14 L4
    simp only [] at e14 L4
    have hlt := hW.lg.lt
    have l4 : (H3 ++ [bx y]).length = H3.length + 1 := by simp
    have hlen4 := G4'.len
    have hj4 : H4[H.length]? = some (bx y) := (G4'.kept _ (by omega) fun q => by have := hlt _ q; omega).trans hj3
    have hz4 : H4[H3.length]? = some (bx y) := (G4'.kept _ (by omega) fun q => by have := hlt _ q; omega).trans (bx_at H3 y)
    have wlt : ∀ j, ab w = some j → j < H.length := fun j q => hW.wv.lt q
    have k4 : ∀ j, j < H.length → ¬ N j → H4[j]? = (H3 ++ [bx y])[j]? := fun j q q2 => G4'.kept j (by omega) q2
    have hv4 : Vec 3 Z3 (H4 ++ [.cells y.cs 3 true]) w es.length cw (fe es) := hW3.wv.keep fun j q => by
      have := wlt j q
      rw [List.getElem?_append_left (by omega)]
      exact k4 j this (hW.ap j q)
    obtain ⟨a', c', H5, app1, V5, L5, K5, N5⟩ := hv4.app (P := Try.prog) (e := 40) c40 (fun ez h => h) z40 (n := 1) (nw := y.cs) rfl (by rw [b40]; omega) (by omega)
    simp only [List.length_append, List.length_cons, List.length_nil] at L5 K5 N5
    have f1 : ∀ K : Nat → List Value → R, firstC (H4 ++ [.cells y.cs 3 true]) 3 (.slice (some ⟨H4.length, 0, none⟩) 1 1) K = K 1 y.cs := fun K => firstC_blk (cs := y.cs) (ez := 3) (o := true) (by simp) rfl K
    have ew4 : IntKind.i64.wrap (((es.length : Nat) : Int) + 1) = ((es.length + 1 : Nat) : Int) := by rw [wrap_in ⟨by omega, by omega⟩]; omega
    have t1 : 0 ≤ (i : Int).tmod 3 := Int.tmod_nonneg _ (by omega)
    have t2 : (i : Int).tmod 3 < 3 := Int.tmod_lt_of_pos _ (by decide)
    have ew5 : IntKind.i64.wrap (now + (i : Int).tmod 3) = now + (i : Int).tmod 3 := wrap_in ⟨by omega, by omega⟩
    have hW5 : Wn H0 N' b (es ++ [y]) a' c' H5 := by
      have own : ∀ q, N' q → q < H4.length := fun q hq => L4.lt q hq
      have apN : ∀ j, ab w = some j → ¬ N' j := fun j q q2 => by
        rcases G4'.own j q2 with q3 | q3
        · exact hW.ap j q q3
        · have := wlt j q; omega
      have kk : ∀ q, q < H4.length → ab w ≠ some q → H5[q]? = H4[q]? := fun q hq hne => by
        rw [K5 q (by omega) hne, List.getElem?_append_left hq]
      refine ⟨L4.keep (by omega) fun q hq => kk q (own q hq) fun q2 => apN q q2 hq, ?_, fun j q => ?_, fun j q => ?_, fun q hq => ?_, ?_, fun q hq => ?_⟩
      · rw [fe_snoc, List.length_append]; exact V5
      · rcases N5 j q with q2 | q2
        · exact apN j q2
        · intro q3; have := own j q3; omega
      · rcases N5 j q with q2 | q2
        · exact hW.wb j q2
        · have := hW.len; omega
      · rcases G4'.own q hq with q2 | q2
        · exact hW.nb q q2
        · have := hW.len; omega
      · have := hW.len; omega
      · have h0 := hW.len
        rw [kk q (by omega) fun q2 => by have := hW.wb q q2; omega, k4 q (by omega) fun q2 => by have := hW.nb q q2; omega]
        exact hW3.kept q hq
    obtain ⟨H', e1⟩ := next N' (es ++ [y]) a' c' H5 (now + (i : Int).tmod 3) (by simp; omega) (fun e he => by
      rcases List.mem_append.1 he with q | q
      · exact hok e q
      · rw [List.mem_singleton.1 q]; exact hoky) (by rw [now_snoc, yn]; omega) (by omega) (by omega) hW5
    rw [show (es ++ [y]).length = es.length + 1 by simp] at e1
    refine ⟨H', ?_⟩
    simp only [↓on_of e43, ↓onS, ↓kInt_int, ↓kInt_u8, ↓kBool_bool, ↓kStr_str, ↓kTup_tup, ↓kPtr_ptr, ↓kSl_sl, ↓kAgg_agg, List.getElem?_toArray, List.getElem?_cons_zero, List.getElem?_cons_succ, bne_self_eq_false, ↓on_of e42, size3, if_true, ↓st_bx (bx_at H3 ev0), bx_set, ↓ldc_bx hj3, ↓cond3, range_cs, ↓on_of e14, ↓ldc_bx hz4, ↓ldc_bx hj4, ↓eqv_ev, Bool.not_true, ew4, ↓cellsOks1, fill3', List.toList_toArray, f1, app1, ew5] at e0
    rw [if_neg (by decide)] at e0
    exact e0.trans e1
end
/-- THE LAW. -/
theorem back9 {H : Heap} {a0 : Option Addr} {l c : Nat} {xs : List Ev} (hX : Recs Ev.cs 3 H a0 l xs) (hl : l * 32 ≤ 140737488351232) (hA : ∀ x, a0 = some x → x.block < H.length) (s : ByteArray) (hs : s.size ≤ 140737488351232) (sz : Int) :
    ∃ H', F9 [.slice a0 l c, .string s, .int .i64 sz] H = some (.bool true, H') := by
  obtain ⟨t, rfl⟩ := bs_of s
  rw [bs_size] at hs
  have f : ∀ m r, fnE Try.prog G9 Try.f9 cuts9 m [.slice a0 l c, .string (bs t), .int .i64 sz] H = some r → F9 [.slice a0 l c, .string (bs t), .int .i64 sz] H = some r := fun m r h => FN_of m h (Nat.le_of_ble_eq_true (by kernel_rfl))
  obtain ⟨m, hm⟩ : ∃ m, m = 2 * l + 83 := ⟨_, rfl⟩
  have e0 := t9 (m + 1) a0 l c (bs t) sz H
  obtain ⟨g, e13⟩ := works13 H
  obtain ⟨g2, e42⟩ := dec42 (H ++ g) t hs
  have eb : AObj.cells ev0.cs 0 true = bx ev0 := rfl
  -- what goes on behind the text
  have go : ∀ g', ∃ H', R9 (m + 1) td9_8 [.slice a0 l c, .int .i64 sz] (H ++ g') = some (.bool true, H') := fun g' => by
    obtain ⟨H0, hH0⟩ : ∃ X, X = H ++ g' := ⟨_, rfl⟩
    have e12 : F12 [] H0 = some (.pointer (some ⟨H0.length, 0, none⟩), H0 ++ [.cells [.slice none 0 0] 0 true]) := FN_of 1 ((t12 1 _).trans rfl) (Nat.le_of_ble_eq_true (by kernel_rfl))
    have kk : ∀ k, k < H.length → H0[k]? = H[k]? := fun k hk => by rw [hH0]; exact List.getElem?_append_left hk
    have l0 : H.length ≤ H0.length := by rw [hH0]; simp
    have hX0 : Recs Ev.cs 3 H0 a0 l xs := hX.keep fun x hx cs own h => (kk _ (hA x hx)).trans h
    have hA0 : ∀ x, a0 = some x → x.block < H0.length := fun x hx => by have := hA x hx; omega
    have none_ : ab (none : Option Addr) = none := rfl
    obtain ⟨H1, hH1⟩ : ∃ X, X = H0 ++ [AObj.cells [.slice none 0 0] 0 true] := ⟨_, rfl⟩
    have l1 : H1.length = H0.length + 1 := by rw [hH1]; simp
    have b1 : H1[H0.length]? = some (.cells [.slice none 0 0] 0 true) := by rw [hH1]; simp
    have k1 : ∀ k, k < H0.length → H1[k]? = H0[k]? := fun k hk => by rw [hH1]; exact List.getElem?_append_left hk
    have g1 : Lg (fun k => k = H0.length) H0.length [] H1 := ⟨rfl, fun k hk => by omega, none, 0, b1, Vec.none 3 H1, by rw [none_]; simp, fun j hj => by cases hj⟩
    have hW : Wn H0 (fun k => k = H0.length) H0.length [] none 0 H1 := ⟨g1, Vec.none 3 H1, (fun j q => by cases q), (fun j q => by cases q), fun k hk => by omega, by omega, k1⟩
    obtain ⟨H', e1⟩ := loopA (c := c) hX0 hl hA0 sz l 0 m _ [] none 0 _ 0 (by omega) (by omega) (by simp) (fun e he => by cases he) (by simp [nowM]) (by omega) (by omega) (by omega) hW
    refine ⟨H', ?_⟩
    rw [← hH0, c9_8]
    simp only [↓on_of e12, ↓onS, ↓kInt_int, ↓kInt_u8, ↓kBool_bool, ↓kStr_str, ↓kTup_tup, ↓kPtr_ptr, ↓kSl_sl, ↓kAgg_agg, Option.isNone_some, ← hH1]
    exact e1
  simp only [z_cs, eb] at e0
  simp only [↓onS, ↓kInt_int, ↓kInt_u8, ↓kBool_bool, ↓kStr_str, ↓kTup_tup, ↓kPtr_ptr, ↓kSl_sl, ↓kAgg_agg, ↓on_of e13, Bool.not_true] at e0
  cases hd : decM t with
  | none =>
    simp only [hd] at e42
    simp only [↓on_of e42, ↓onS, ↓kInt_int, ↓kInt_u8, ↓kBool_bool, ↓kStr_str, ↓kTup_tup, ↓kPtr_ptr, ↓kSl_sl, ↓kAgg_agg, List.getElem?_toArray, List.getElem?_cons_zero, List.getElem?_cons_succ, size3, if_true, ↓st_bx (bx_at (H ++ g ++ g2) ev0), bx_set, show ((230 : Int) == 0) = false from rfl] at e0
    obtain ⟨H', e1⟩ := go (g ++ g2 ++ [bx ev0])
    rw [show H ++ (g ++ g2 ++ [bx ev0]) = H ++ g ++ g2 ++ [bx ev0] by simp] at e1
    exact ⟨H', f _ _ (e0.trans e1)⟩
  | some x =>
    have hx : enc x = t ∧ ok x = true := by
      unfold decM at hd
      split at hd
      · rename_i y hy
        obtain rfl := Option.some.inj hd
        have := enc_first hy
        rw [List.append_nil] at this
        exact this
      · cases hd
    simp only [hd] at e42
    obtain ⟨g3, e43⟩ := enc43 (H ++ g ++ g2 ++ [bx x]) x
    simp only [hx.2, hx.1] at e43
    simp only [↓on_of e42, ↓onS, ↓kInt_int, ↓kInt_u8, ↓kBool_bool, ↓kStr_str, ↓kTup_tup, ↓kPtr_ptr, ↓kSl_sl, ↓kAgg_agg, List.getElem?_toArray, List.getElem?_cons_zero, List.getElem?_cons_succ, size3, if_true, ↓st_bx (bx_at (H ++ g ++ g2) ev0), bx_set, beq_self_eq_true, ↓ldc_bx (bx_at (H ++ g ++ g2) x), ↓cond3, range_cs, ↓on_of e43, bne_self_eq_false, Bool.not_true] at e0
    obtain ⟨H', e1⟩ := go (g ++ g2 ++ [bx x] ++ g3)
    rw [show H ++ (g ++ g2 ++ [bx x] ++ g3) = H ++ g ++ g2 ++ [bx x] ++ g3 by simp] at e1
    exact ⟨H', f _ _ (e0.trans e1)⟩
end Go.Proofs.Yticchkdbanhjfaa
