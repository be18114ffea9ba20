/- AppTakes: what the law comes to. -/
import Derived.Test.YtbheppfjaeocpaaGreatDoorTD
import Derived.Test.YtbheppfjaeocpaaGreatDoorRe6
set_option linter.unusedVariables false
set_option linter.unusedSimpArgs false
namespace Go.Proofs.YtbheppfjaeocpaaGreatDoor
open Go Go.RowKit Go.Lib Go.Proofs.YtbheppfjaeocpaaGreatDoor.Fw
/-! ### A fork -/
section
variable {N : Nat → Prop} {s : Nat} {S : Ss} {H : Heap}
theorem clone34 {a : Option Addr} {c : Nat} {t : Tx} (hv : Vec 1 ZL H a t.length c (bc t)) (ht : t.length ≤ 1000) : ∃ a' c' H', F34 [.slice a t.length c] H = some (.slice a' t.length c', H') ∧ Vec 1 ZL H' a' t.length c' (bc t) ∧ Ch (fun _ => False) H H' ∧ ∀ j, ab a' = some j → H.length ≤ j := by
  have e := t34 1 a t.length c H
  rcases hv.2 with ⟨rfl, hl, rfl⟩ | ⟨j, cs, ez, hz, rfl, hj, htk, _⟩
  · have h0 : t = [] := List.eq_nil_of_length_eq_zero hl
    subst h0
    exact ⟨none, 0, H, FN_of 1 e (Nat.le_of_ble_eq_true (by kernel_rfl)), Vec.none 1 _, Ch.refl _ _, fun j hj => by cases hj⟩
  · obtain ⟨H3, hH3⟩ : ∃ X, X = H ++ [.cells [] 1 true] := ⟨_, rfl⟩
    have c3 : Ch (fun _ => False) H H3 := by rw [hH3]; exact Ch.push _ _ _
    have l3 : H3.length = H.length + 1 := by rw [hH3]; simp
    have V0 : Vec 1 ZL H3 (some ⟨H.length, 0, none⟩) 0 0 [] := ⟨rfl, .inr ⟨H.length, [], 1, .inl rfl, rfl, by rw [hH3]; simp, rfl, .inr ⟨Nat.le_refl _, by simp⟩⟩⟩
    have hv3 : Vec 1 ZL H3 (some ⟨j, 0, none⟩) t.length c (bc t) := hv.keep fun j hj => c3.kept j (hv.lt hj) id
    obtain ⟨a', c', H7, ap, V, L, K, N1⟩ := V0.app (P := Tryz.prog) (e := 5) c5' zl_ok zl5 (n := t.length) (nw := bc t) (by rw [bc_len]; omega) (by rw [b5']; omega) (by omega)
    rw [Nat.zero_add, List.nil_append] at V
    rw [Nat.zero_add] at ap
    refine ⟨a', c', H7, FN_of 1 (e.trans ?_) (Nat.le_of_ble_eq_true (by kernel_rfl)), V, ⟨by omega, fun k hk _ => ?_⟩, fun k hk => ?_⟩
    · simp only [Option.isNone_some, ← hH3]
      rw [firstC_vec hv3, ap]
      simp only [↓onS, ↓kInt_int, ↓kInt_u8, ↓kBool_bool, ↓kStr_str, ↓kTup_tup, ↓kPtr_ptr, ↓kSl_sl, ↓kAgg_agg, ↓kMp_mp]
    · rw [K k (by omega) fun q => by have : H.length = k := by simpa [ab] using q
                                     omega, c3.kept k hk id]
    · rcases N1 k hk with q | q
      · have : H.length = k := by simpa [ab] using q
        omega
      · omega
theorem fork19 (h : Sn N s S H) : ∃ Nf f H', F19 [.pointer (some ⟨s, 0, none⟩)] H = some (.pointer (some ⟨f, 0, none⟩), H') ∧ Sn Nf f S H' ∧ (∀ k, Nf k → H.length ≤ k) ∧ Ch (fun _ => False) H H' := by
  obtain ⟨m, a, c, st, hv, ha1, ha2, hs, hm, hown⟩ := h.body
  obtain ⟨es, m1, m2⟩ := st.mp
  have hsl := lt_of_at st.cs
  obtain ⟨H1, hH1⟩ : ∃ X, X = H ++ [.map es] := ⟨_, rfl⟩
  have c1 : Ch (fun _ => False) H H1 := by rw [hH1]; exact Ch.push _ _ _
  have l1 : H1.length = H.length + 1 := by rw [hH1]; simp
  have e33 : F33 [.map (some m)] H = some (.map (some H.length), H1) := by
    show ldm H m _ = _
    rw [ldm_at m1, hH1]
  have hline := h.line
  obtain ⟨a', c', H2, e34, V, c2, n2⟩ := clone34 (hv.keep (H' := H1) fun j hj => c1.kept j (hv.lt hj) id) (by omega)
  obtain ⟨H3, hH3⟩ : ∃ X, X = H2 ++ [.cells [.map (some H.length), .slice a' S.line.length c', .bool S.long, .bool S.over] 0 true] := ⟨_, rfl⟩
  have c3 : Ch (fun _ => False) H2 H3 := by rw [hH3]; exact Ch.push _ _ _
  have l3 : H3.length = H2.length + 1 := by rw [hH3]; simp
  have l2 := c2.len
  have u1 : ∀ K : R, unt H H1 s K = K := fun K => unt_of (c1.kept s hsl id) K
  have u2 : ∀ K : R, unt H1 H2 s K = K := fun K => unt_of (c2.kept s (by omega) id) K
  have mm : H1[H.length]? = some (.map es) := by rw [hH1]; simp
  refine ⟨fun k => H.length ≤ k ∧ k < H3.length, H2.length, H3, FN_of 1 ((t19 1 (some ⟨s, 0, none⟩) H).trans ?_) (Nat.le_of_ble_eq_true (by kernel_rfl)), ⟨fun k hk => hk.2, hline, H.length, a', c', ⟨by omega, by rw [hH3]; simp, ⟨es, c3.at_ (c2.at_ mm id) id, m2⟩, h.ok⟩, V.keep fun j hj => c3.kept j (V.lt hj) id, fun q => ?_, fun q => ?_, ⟨by omega, by omega⟩, ⟨Nat.le_refl _, by omega⟩, fun j hj => ⟨by have := n2 j hj; omega, by have := V.lt hj; omega⟩⟩, fun k hk => hk.1, c1.trans (c2.trans c3)⟩
  · simp only [↓onS, ↓kInt_int, ↓kInt_u8, ↓kBool_bool, ↓kStr_str, ↓kTup_tup, ↓kPtr_ptr, ↓kSl_sl, ↓kAgg_agg, ↓kMp_mp, ↓ldc_at st.cs, List.getElem?_toArray, List.getElem?_cons_zero, List.getElem?_cons_succ, Nat.zero_add, ↓on_of e33, u1, ↓on_of e34, u2, ← hH3]
  · have := V.lt q; omega
  · have := n2 _ q; omega
end
/-! ### The names -/
def TxRow (H : Heap) (a : Option Addr) (ts : List Tx) : Prop := ∀ (i : Nat) (t : Tx), ts[i]? = some t → ∃ j cs ez own, a = some ⟨j, 0, none⟩ ∧ H[j]? = some (.cells cs ez own) ∧ cs[i]? = some (.string (bs t))
theorem nmC_get {l : Vs} {i : Nat} : (nmC l)[i]? = (l.map (·.1))[i]?.map fun t => .string (bs t) := by
  unfold nmC
  simp only [List.getElem?_map, Option.map_map]
  rfl
theorem txrow_nms {H0 H : Heap} {a : Option Addr} {c : Nat} {l : Vs} (h : Nms H0 a c l H) : TxRow H a (l.map (·.1)) := fun i t hi => by
  rcases h.row with ⟨_, _, rfl⟩ | ⟨j, _, ha, _, hj⟩
  · simp at hi
  · exact ⟨j, _, _, _, ha, hj, by rw [nmC_get, hi]; rfl⟩
theorem txrow_vec {H : Heap} {a : Option Addr} {c : Nat} {l : Vs} (h : Vec 1 (· = 1) H a l.length c (nmC l)) : TxRow H a (l.map (·.1)) := fun i t hi => by
  have hlt : i < l.length := by
    have := (List.getElem?_eq_some_iff.1 hi).1
    simpa using this
  obtain ⟨j, cs, ez, hz, ha, h1, h2, h3⟩ := h.at_ (by omega)
  refine ⟨j, cs, ez, true, ha, h1, ?_⟩
  have : (nmC l)[i]? = some (.string (bs t)) := by rw [nmC_get, hi]; rfl
  rw [← h2, List.getElem?_take_of_lt (by omega)] at this
  exact this
theorem same21 {H : Heap} {a b : Option Addr} {c d n : Nat} {ts : List Tx} (ha : TxRow H a ts) (hb : TxRow H b ts) (hn : ts.length = n) (hn2 : n ≤ 1000) : F21 [.slice a n c, .slice b n d] H = some (.bool true, H) := by
  have key : ∀ (r i m : Nat), i + r = n → R21 (m + r + 1) td21_100004 [.slice a n c, .slice b n d, .int .i64 ((i : Nat) : Int)] H = some (.bool true, H) := by
    intro r
    induction r with
    | zero =>
      intro i m hi
      rw [c21_100004, decide_eq_false (show ¬ ((i : Nat) : Int) < ((n : Nat) : Int) by omega)]
    | succ r ih =>
      intro i m hi
      have hlt : i < ts.length := by omega
      have hx : ts[i]? = some (ts[i]'hlt) := by simp [hlt]
      obtain ⟨j, cs, ez, own, rfl, hj, hc⟩ := ha i _ hx
      obtain ⟨j', cs', ez', own', rfl, hj', hc'⟩ := hb i _ hx
      rw [show m + (r + 1) + 1 = (m + r + 1) + 1 by omega, c21_100004, decide_eq_true (show ((i : Nat) : Int) < ((n : Nat) : Int) by omega)]
      simp only [↓onS, ↓kInt_int, ↓kInt_u8, ↓kBool_bool, ↓kStr_str, ↓kTup_tup, ↓kPtr_ptr, ↓kSl_sl, ↓kAgg_agg, ↓kMp_mp]
      rw [if_pos ⟨by omega, by omega⟩, Int.toNat_natCast, Nat.mul_one, add0, add0]
      simp only [↓ldc_at hj, hc, ↓onS, ↓kInt_int, ↓kInt_u8, ↓kBool_bool, ↓kStr_str, ↓kTup_tup, ↓kPtr_ptr, ↓kSl_sl, ↓kAgg_agg, ↓kMp_mp]
      rw [if_pos ⟨by omega, by omega⟩]
      simp only [↓ldc_at hj', hc', ↓onS, ↓kInt_int, ↓kInt_u8, ↓kBool_bool, ↓kStr_str, ↓kTup_tup, ↓kPtr_ptr, ↓kSl_sl, ↓kAgg_agg, ↓kMp_mp, bs_list, beq_self_eq_true, Bool.not_true, wrap_succ (show i + 1 < 9223372036854775808 by omega)]
      exact ih (i + 1) m (by omega)
  refine FN_of (0 + n + 1) ((t21 _ a n c b n d H).trans ?_) (Nat.le_of_ble_eq_true (by kernel_rfl))
  rw [bne_self_eq_false]
  exact key n 0 0 (by omega)
theorem spoil23 {H : Heap} {a : Option Addr} {c n : Nat} (h : (a = none ∧ n = 0) ∨ ∃ j cs ez, a = some ⟨j, 0, none⟩ ∧ H[j]? = some (.cells cs ez true) ∧ n ≤ cs.length) (hn2 : n ≤ 1000) : ∃ H', F23 [.slice a n c] H = some (.tuple #[], H') ∧ Ch (fun k => ab a = some k) H H' := by
  rcases h with ⟨rfl, rfl⟩ | ⟨j, cs, ez, rfl, hj, hl⟩
  · refine ⟨H, FN_of (0 + 1) ((t23 _ none 0 c H).trans ?_) (Nat.le_of_ble_eq_true (by kernel_rfl)), Ch.refl _ _⟩
    rw [c23_100001]; rfl
  · have key : ∀ (r i m : Nat) (H : Heap) (cs : List Value), i + r = n → H[j]? = some (.cells cs ez true) → n ≤ cs.length → ∃ H', R23 (m + r + 1) td23_100001 [.slice (some ⟨j, 0, none⟩) n c, .int .i64 ((i : Nat) : Int)] H = some (.tuple #[], H') ∧ Ch (· = j) H H' := by
      intro r
      induction r with
      | zero =>
        intro i m H cs hi hj hl
        refine ⟨H, ?_, Ch.refl _ _⟩
        rw [c23_100001, decide_eq_false (show ¬ ((i : Nat) : Int) < ((n : Nat) : Int) by omega)]
      | succ r ih =>
        intro i m H cs hi hj hl
        obtain ⟨H1, hH1⟩ : ∃ X, X = H.set j (.cells (cs.set i (.string (⟨#[115, 112, 111, 105, 108, 116]⟩ : ByteArray))) ez true) := ⟨_, rfl⟩
        obtain ⟨H', e, ch⟩ := ih (i + 1) m H1 (cs.set i (.string (⟨#[115, 112, 111, 105, 108, 116]⟩ : ByteArray))) (by omega) (by rw [hH1]; exact at_set_self (lt_of_at hj) _) (by rw [List.length_set]; exact hl)
        refine ⟨H', ?_, Ch.trans (H1 := H1) (by rw [hH1]; exact Ch.set (N := (· = j)) rfl _) ch⟩
        rw [show m + (r + 1) + 1 = (m + r + 1) + 1 by omega, c23_100001, decide_eq_true (show ((i : Nat) : Int) < ((n : Nat) : Int) by omega)]
        simp only [↓onS, ↓kInt_int, ↓kInt_u8, ↓kBool_bool, ↓kStr_str, ↓kTup_tup, ↓kPtr_ptr, ↓kSl_sl, ↓kAgg_agg, ↓kMp_mp]
        rw [if_pos ⟨by omega, by omega⟩, Int.toNat_natCast, Nat.mul_one, add0, st_one (a := ⟨j, i, none⟩) hj (show i < cs.length by omega) rfl, ← hH1, wrap_succ (show i + 1 < 9223372036854775808 by omega)]
        exact e
    obtain ⟨H', e, ch⟩ := key n 0 0 H cs (by omega) hj hl
    exact ⟨H', FN_of (0 + n + 1) ((t23 _ (some ⟨j, 0, none⟩) n c H).trans e) (Nat.le_of_ble_eq_true (by kernel_rfl)), ch.mono fun k q => by rw [q]; rfl⟩
theorem names22 {N : Nat → Prop} {s : Nat} {l : Vs} {v1 v2 v3 : Value} {H : Heap} (h : Rt N s l v1 v2 v3 H) : ∃ a c H', F22 [.pointer (some ⟨s, 0, none⟩)] H = some (.slice a l.length c, H') ∧ Vec 1 (· = 1) H' a l.length c (nmC l) ∧ Ch (fun _ => False) H H' := by
  have h64 := h.ok.len
  have key : ∀ (r i m : Nat) (a : Option Addr) (c : Nat) (H1 : Heap), i + r = l.length → Vec 1 (· = 1) H1 a i c (nmC (l.take i)) → Ch (fun _ => False) H H1 → (∀ j, ab a = some j → H.length ≤ j) →
      ∃ a' c' H', R22 (m + r + 1) td22_100003 [.pointer (some ⟨s, 0, none⟩), .slice a i c, .int .i64 ((i : Nat) : Int)] H1 = some (.slice a' l.length c', H') ∧ Vec 1 (· = 1) H' a' l.length c' (nmC l) ∧ Ch (fun _ => False) H H' := by
    intro r
    induction r with
    | zero =>
      intro i m a c H1 hi hV hc hN
      obtain ⟨a0, c0, cs, hv, h1, h2, h3⟩ := (h.nil hc).body
      have hil : i = l.length := by omega
      subst hil
      rw [List.take_length] at hV
      refine ⟨a, c, H1, ?_, hV, hc⟩
      rw [c22_100003]
      simp only [↓onS, ↓kInt_int, ↓kInt_u8, ↓kBool_bool, ↓kStr_str, ↓kTup_tup, ↓kPtr_ptr, ↓kSl_sl, ↓kAgg_agg, ↓kMp_mp, ↓ldc_at cs, List.getElem?_toArray, List.getElem?_cons_zero, List.getElem?_cons_succ]
      rw [decide_eq_false (show ¬ ((l.length : Nat) : Int) < ((l.length : Nat) : Int) by omega)]
    | succ r ih =>
      intro i m a c H1 hi hV hc hN
      obtain ⟨a0, c0, cs, hv, h1, h2, h3⟩ := (h.nil hc).body
      have hlt : i < l.length := by omega
      have hx : l[i]? = some (l[i]'hlt) := by simp [hlt]
      obtain ⟨j, rs, ha, hj, _, hle, g1, g2⟩ := vec_cell2 hv hx
      obtain ⟨H2, hH2⟩ : ∃ X, X = H1 ++ [.cells [.string (bs (l[i]'hlt).1)] 1 true] := ⟨_, rfl⟩
      have c2 : Ch (fun _ => False) H1 H2 := by rw [hH2]; exact Ch.push _ _ _
      have l2 : H2.length = H1.length + 1 := by rw [hH2]; simp
      have b2 : H2[H1.length]? = some (.cells [.string (bs (l[i]'hlt).1)] 1 true) := by rw [hH2]; simp
      have f2 : ∀ K : Nat → List Value → R, firstC H2 1 (.slice (some ⟨H1.length, 0, none⟩) 1 1) K = K 1 [.string (bs (l[i]'hlt).1)] := fun K => firstC_at b2 (by simp) K
      obtain ⟨a', c', H3, ap, V, L, K, N1⟩ := (hV.keep (H' := H2) fun k hk => c2.kept k (hV.lt hk) id).app (P := Tryz.prog) (e := 9) c9' one9 e9' (n := 1) (nw := [.string (bs (l[i]'hlt).1)]) rfl (by rw [b9']; omega) (by omega)
      have hl1 := hc.len
      have hc3 : Ch (fun _ => False) H H3 := ⟨by omega, fun k hk _ => by
        rw [K k (by omega) fun q => by have := hN k q; omega, c2.kept k (by omega) id, hc.kept k hk id]⟩
      have enm : nmC (l.take i) ++ [.string (bs (l[i]'hlt).1)] = nmC (l.take (i + 1)) := by
        rw [List.take_add_one, hx]
        unfold nmC
        rw [List.map_append]; rfl
      rw [enm] at V
      obtain ⟨a'', c'', H', e, V', hc'⟩ := ih (i + 1) m a' c' H3 (by omega) V hc3 (fun k hk => by
        rcases N1 k hk with q | q
        · exact hN k q
        · omega)
      refine ⟨a'', c'', H', ?_, V', hc'⟩
      rw [show m + (r + 1) + 1 = (m + r + 1) + 1 by omega, c22_100003]
      simp only [↓onS, ↓kInt_int, ↓kInt_u8, ↓kBool_bool, ↓kStr_str, ↓kTup_tup, ↓kPtr_ptr, ↓kSl_sl, ↓kAgg_agg, ↓kMp_mp, ↓ldc_at cs, List.getElem?_toArray, List.getElem?_cons_zero, List.getElem?_cons_succ]
      rw [decide_eq_true (show ((i : Nat) : Int) < ((l.length : Nat) : Int) by omega), ha]
      simp only [↓onS, ↓kInt_int, ↓kInt_u8, ↓kBool_bool, ↓kStr_str, ↓kTup_tup, ↓kPtr_ptr, ↓kSl_sl, ↓kAgg_agg, ↓kMp_mp]
      rw [if_pos ⟨by omega, by omega⟩, Int.toNat_natCast, add0]
      simp only [↓ldc_at hj, g1, ↓onS, ↓kInt_int, ↓kInt_u8, ↓kBool_bool, ↓kStr_str, ↓kTup_tup, ↓kPtr_ptr, ↓kSl_sl, ↓kAgg_agg, ↓kMp_mp, ← hH2, f2, ap, wrap_succ (show i + 1 < 9223372036854775808 by omega)]
      exact e
  obtain ⟨a, c, H', e, V, hc⟩ := key l.length 0 0 none 0 H (by omega) (Vec.none 1 _) (Ch.refl _ _) (fun j hj => by cases hj)
  exact ⟨a, c, H', FN_of (0 + l.length + 1) ((t22 _ (some ⟨s, 0, none⟩) H).trans e) (Nat.le_of_ble_eq_true (by kernel_rfl)), V, hc⟩
theorem over2018 {N : Nat → Prop} {s : Nat} {S : Ss} {H : Heap} (h : Sn N s S H) : F2018 [.pointer (some ⟨s, 0, none⟩)] H = some (.bool S.over, H) := by
  obtain ⟨mm, a, cp, st, _⟩ := h.body
  refine FN_of 1 ((t2018 1 (some ⟨s, 0, none⟩) H).trans ?_) (Nat.le_of_ble_eq_true (by kernel_rfl))
  simp only [↓onS, ↓kInt_int, ↓kInt_u8, ↓kBool_bool, ↓kStr_str, ↓kTup_tup, ↓kPtr_ptr, ↓kSl_sl, ↓kAgg_agg, ↓kMp_mp, ↓ldc_at st.cs, List.getElem?_toArray, List.getElem?_cons_zero, List.getElem?_cons_succ, Nat.zero_add]
/-! ### The law -/
section
variable {H0 : Heap} {a : Option Addr} {l c : Nat} {xs : List Tx}
theorem step8 (hp : Pow H0) (h : Recs recT 1 H0 a l xs) (hA : ∀ x, a = some x → x.block < H0.length) {i : Nat} {t : Tx} (hx : xs[i]? = some t) (hil : i < l) {N M : Nat → Prop} {s w : Nat} {S : Ss} {H : Heap} (hS : Sn N s S H) (hW : Rn M w S H) (hd : ∀ k, N k → ¬ M k) (hG : Go' (fun _ => False) H0 N H) (hM : ∀ k, M k → H0.length ≤ k) (hl : l ≤ 9223372036854775807) :
    ∃ N' M' S' H', (∀ m, R8 (m + 1) td8_8 [.slice a l c, .pointer (some ⟨s, 0, none⟩), .pointer (some ⟨w, 0, none⟩), .int .i64 ((i : Nat) : Int)] H = R8 m td8_6 [.slice a l c, .pointer (some ⟨s, 0, none⟩), .pointer (some ⟨w, 0, none⟩), .int .i64 ((i : Nat) : Int)] H') ∧
      Sn N' s S' H' ∧ Rn M' w S' H' ∧ (∀ k, N' k → ¬ M' k) ∧ Go' (fun _ => False) H0 N' H' ∧ ∀ k, M' k → H0.length ≤ k := by
  have h0N : ∀ k, N k → H0.length ≤ k := fun k q => by
    rcases hG.own k q with z | z
    · exact z.elim
    · exact z
  have hpos := hp.pos
  -- the fork
  obtain ⟨Nf, f, H1, e19, sf, nf, c1⟩ := fork19 hS
  have l1 := c1.len
  have lG := hG.ch.len
  have hS1 : Sn N s S H1 := hS.ch c1 fun _ _ => id
  have hW1 : Rn M w S H1 := ⟨hW.st.nil c1, hW.line⟩
  have cH1 : Ch (fun _ => False) H0 H1 := hG.ch.trans c1
  have hp1 : Pow H1 := hp.ch cH1 id
  -- take
  obtain ⟨N2, H2, e16, s2, g2⟩ := take16 (t := t) hS1 hp1 (fun q => by have := h0N 0 q; omega)
  have n2 : ∀ k, N2 k → H0.length ≤ k := fun k q => by
    rcases g2.own k q with z | z
    · exact h0N k z
    · omega
  have cH2 : Ch (fun _ => False) H0 H2 := ⟨Nat.le_trans cH1.len g2.ch.len, fun k hk _ => (g2.ch.kept k (Nat.lt_of_lt_of_le hk cH1.len) fun q => by have := h0N k q; omega).trans (cH1.kept k hk id)⟩
  have hW2 : Rn M w S H2 := ⟨hW1.st.ch g2.ch fun k q z => hd k z q, hW1.line⟩
  have sf2 : Sn Nf f S H2 := sf.ch g2.ch fun k q z => by have := nf k q; have := hS.lt k z; omega
  -- the document's take
  obtain ⟨M3, H3, e20, w3, g3⟩ := take20 (t := t) hW2
  have m3 : ∀ k, M3 k → H0.length ≤ k := fun k q => by
    rcases g3.own k q with z | z
    · exact hM k z
    · have := cH2.len; omega
  have hd2 : ∀ k, N2 k → ¬ M k := fun k q z => by
    rcases g2.own k q with y | y
    · exact hd k y z
    · have := hW1.st.lt k z; omega
  have hd3 : ∀ k, N2 k → ¬ M3 k := fun k q z => by
    rcases g3.own k z with y | y
    · exact hd2 k q y
    · have := s2.lt k q; omega
  have cH3 : Ch (fun _ => False) H0 H3 := ⟨Nat.le_trans cH2.len g3.ch.len, fun k hk _ => (g3.ch.kept k (Nat.lt_of_lt_of_le hk cH2.len) fun q => by have := hM k q; omega).trans (cH2.kept k hk id)⟩
  have s3 : Sn N2 s (takeM S t).1 H3 := s2.ch g3.ch hd2
  have sf3 : Sn Nf f S H3 := sf2.ch g3.ch fun k q z => by have := nf k q; have := hW.st.lt k z; omega
  -- the names
  obtain ⟨mm, b1, b2, st3, _⟩ := s3.body
  obtain ⟨an, cn, g, e17, nm⟩ := names17 st3
  obtain ⟨H4, hH4⟩ : ∃ X, X = H3 ++ g := ⟨_, rfl⟩
  rw [← hH4] at e17 nm
  have c4 : Ch (fun _ => False) H3 H4 := by rw [hH4]; exact Ch.push _ _ _
  have s4 : Sn N2 s (takeM S t).1 H4 := s3.ch c4 fun _ _ => id
  have w4 : Rt M3 w _ _ _ _ H4 := w3.st.nil c4
  obtain ⟨aw, cw, H5, e22, V5, c5⟩ := names22 w4
  have hl4 := c4.len
  have hl5 := c5.len
  have h64 := w4.ok.len
  -- the same
  have r1 : TxRow H5 an ((takeM S t).1.vals.map (·.1)) := fun i t hi => by
    obtain ⟨j, cs, ez, own, q1, q2, q3⟩ := txrow_nms nm i t hi
    exact ⟨j, cs, ez, own, q1, c5.at_ q2 id, q3⟩
  have e21 := same21 (c := cn) (d := cw) r1 (txrow_vec V5) (n := (takeM S t).1.vals.length) (by simp) (by omega)
  -- spoilt
  have hsp : (an = none ∧ (takeM S t).1.vals.length = 0) ∨ ∃ j cs ez, an = some ⟨j, 0, none⟩ ∧ H5[j]? = some (.cells cs ez true) ∧ (takeM S t).1.vals.length ≤ cs.length := by
    rcases nm.row with ⟨q1, _, q3⟩ | ⟨j, _, q1, _, q4⟩
    · exact .inl ⟨q1, by rw [q3]; rfl⟩
    · exact .inr ⟨j, _, _, q1, c5.at_ q4 id, by simp [nmC]⟩
  have hnew : ∀ k, ab an = some k → H3.length ≤ k := fun k q => by
    rcases nm.row with ⟨q1, _, _⟩ | ⟨j, z, q1, _, _⟩
    · rw [q1] at q; cases q
    · rw [q1] at q
      have : j = k := by simpa [ab] using q
      omega
  obtain ⟨H6, e23, c6⟩ := spoil23 (c := cn) hsp (by omega)
  have l6 := c6.len
  have c36 : Ch (fun _ => False) H3 H6 := ⟨by omega, fun k hk _ => by
    rw [c6.kept k (by omega) fun q => by have := hnew k q; omega, c5.kept k (by omega) id, c4.kept k hk id]⟩
  have s6 : Sn N2 s (takeM S t).1 H6 := s3.ch c36 fun _ _ => id
  have w6 : Rn M3 w (takeM S t).1 H6 := ⟨w3.st.nil c36, w3.line⟩
  have sf6 : Sn Nf f S H6 := sf3.ch c36 fun _ _ => id
  have cH6 := cH3.trans c36
  -- the fork takes
  obtain ⟨N7, H7, e167, s7, g7⟩ := take16 (t := [80, 85, 84, 32, 102, 111, 114, 107, 32, 49, 10, 68, 69, 76, 32, 97, 10]) sf6 (hp.ch cH6 id) (fun q => by have := nf 0 q; omega)
  have l2 := g2.ch.len
  have l3 := g3.ch.len
  have nfN : ∀ k, N2 k → ¬ Nf k := fun k q z => by
    have z1 := nf k z
    have z2 := sf.lt k z
    rcases g2.own k q with y | y
    · have := hS.lt k y; omega
    · omega
  have nfM : ∀ k, M3 k → ¬ Nf k := fun k q z => by
    have z1 := nf k z
    have z2 := sf.lt k z
    rcases g3.own k q with y | y
    · have := hW.st.lt k y; omega
    · omega
  have s7' : Sn N2 s (takeM S t).1 H7 := s6.ch g7.ch nfN
  have w7 : Rn M3 w (takeM S t).1 H7 := ⟨w6.st.ch g7.ch nfM, w6.line⟩
  have cH7 : Ch (fun _ => False) H0 H7 := ⟨Nat.le_trans cH6.len g7.ch.len, fun k hk _ => (g7.ch.kept k (Nat.lt_of_lt_of_le hk cH6.len) fun q => by have := nf k q; omega).trans (cH6.kept k hk id)⟩
  -- the argument
  obtain ⟨ad, cs, own, ha, hat, hget⟩ := (h.ch cH1 (fun _ _ => id)).one hx
  have had : ad.block < H0.length := hA ad ha
  have hat2 : H2[ad.block]? = some (.cells cs 1 own) := (g2.ch.kept _ (by have := cH1.len; omega) fun q => by have := h0N _ q; omega).trans hat
  obtain ⟨ar, cr, csr, hv, h1, h2, h3⟩ := w4.body
  have u : ∀ K : R, unt H4 H4 w K = K := fun K => unt_of rfl K
  have lit : (⟨#[80, 85, 84, 32, 102, 111, 114, 107, 32, 49, 10, 68, 69, 76, 32, 97, 10]⟩ : ByteArray) = bs [80, 85, 84, 32, 102, 111, 114, 107, 32, 49, 10, 68, 69, 76, 32, 97, 10] := rfl
  refine ⟨N2, M3, (takeM S t).1, H7, fun m => ?_, s7', w7, hd3, ⟨cH7, fun k q => .inr (n2 k q)⟩, m3⟩
  rw [c8_8]
  simp only [↓on_of e19, ↓onS, ↓kInt_int, ↓kInt_u8, ↓kBool_bool, ↓kStr_str, ↓kTup_tup, ↓kPtr_ptr, ↓kSl_sl, ↓kAgg_agg, ↓kMp_mp, Option.isNone_some, ↓on_of ha]
  rw [if_pos ⟨by omega, by omega⟩]
  simp only [Int.toNat_natCast, add_block, add_off, ↓ldc_at hat, hget, ↓onS, ↓kInt_int, ↓kInt_u8, ↓kBool_bool, ↓kStr_str, ↓kTup_tup, ↓kPtr_ptr, ↓kSl_sl, ↓kAgg_agg, ↓kMp_mp, ↓on_of e16, List.getElem?_toArray, List.getElem?_cons_zero, List.getElem?_cons_succ]
  rw [if_pos ⟨by omega, by omega⟩]
  simp only [↓ldc_at hat2, hget, ↓onS, ↓kInt_int, ↓kInt_u8, ↓kBool_bool, ↓kStr_str, ↓kTup_tup, ↓kPtr_ptr, ↓kSl_sl, ↓kAgg_agg, ↓kMp_mp, ↓on_of e20, List.getElem?_toArray, List.getElem?_cons_zero, List.getElem?_cons_succ, ↓on_of e17, bs_list, beq_self_eq_true, Bool.not_true, bne_self_eq_false, ↓ldc_at csr, Nat.zero_add, ↓on_of (over2018 s4), u, ↓on_of e22, ↓on_of e21, ↓on_of e23, lit, ↓on_of e167]
theorem loop8 (hp : Pow H0) (h : Recs recT 1 H0 a l xs) (hA : ∀ x, a = some x → x.block < H0.length) (hl : l ≤ 9223372036854775807) : ∀ (r i m : Nat) (N M : Nat → Prop) (s w : Nat) (S : Ss) (H : Heap), i + r = 60 → Sn N s S H → Rn M w S H → (∀ k, N k → ¬ M k) → Go' (fun _ => False) H0 N H → (∀ k, M k → H0.length ≤ k) →
    ∃ H', R8 (m + 3 * r + 2) td8_100005 [.slice a l c, .pointer (some ⟨s, 0, none⟩), .pointer (some ⟨w, 0, none⟩), .int .i64 ((i : Nat) : Int)] H = some (.bool true, H') := by
  intro r
  induction r with
  | zero =>
    intro i m N M s w S H hi hS hW hd hG hM
    have e := c8_100005 (m + 3 * 0 + 1) a l c (some ⟨s, 0, none⟩) (some ⟨w, 0, none⟩) ((i : Nat) : Int) H
    rw [decide_eq_false (show ¬ ((i : Nat) : Int) < 60 by omega)] at e
    refine ⟨H, e.trans ?_⟩
    cases decide (((i : Nat) : Int) < ((l : Nat) : Int)) <;> exact c8_18 _ H
  | succ r ih =>
    intro i m N M s w S H hi hS hW hd hG hM
    have e := c8_100005 (m + 3 * r + 2 + 1 + 1) a l c (some ⟨s, 0, none⟩) (some ⟨w, 0, none⟩) ((i : Nat) : Int) H
    rw [show m + 3 * (r + 1) + 2 = m + 3 * r + 2 + 1 + 1 + 1 by omega]
    rw [decide_eq_true (show ((i : Nat) : Int) < 60 by omega)] at e
    have ew : IntKind.i64.wrap (((i : Nat) : Int) + 1) = ((i + 1 : Nat) : Int) := wrap_succ (by omega)
    by_cases hil : i < l
    rotate_left
    · rw [decide_eq_false (show ¬ ((i : Nat) : Int) < ((l : Nat) : Int) by omega)] at e
      exact ⟨H, e.trans (c8_18 _ H)⟩
    rw [decide_eq_true (show ((i : Nat) : Int) < ((l : Nat) : Int) by omega)] at e
    have hlen := h.len
    obtain ⟨t, hx⟩ : ∃ x, xs[i]? = some x := ⟨xs[i]'(by omega), by simp⟩
    obtain ⟨ad, cs, own, ha, hat, hget⟩ := (h.ch hG.ch (fun _ _ => id)).one hx
    simp only [↓on_of ha] at e
    rw [if_pos ⟨by omega, by omega⟩] at e
    simp only [Int.toNat_natCast, add_block, add_off, ↓ldc_at hat, hget, ↓onS, ↓kInt_int, ↓kInt_u8, ↓kBool_bool, ↓kStr_str, ↓kTup_tup, ↓kPtr_ptr, ↓kSl_sl, ↓kAgg_agg, ↓kMp_mp, bs_size] at e
    rw [if_pos ⟨by omega, by omega⟩] at e
    have s6 : ∀ (m' : Nat), m' = m + 3 * r + 2 → ∀ (N M : Nat → Prop) (S : Ss) (H : Heap), Sn N s S H → Rn M w S H → (∀ k, N k → ¬ M k) → Go' (fun _ => False) H0 N H → (∀ k, M k → H0.length ≤ k) → ∃ H', R8 (m' + 1) td8_6 [.slice a l c, .pointer (some ⟨s, 0, none⟩), .pointer (some ⟨w, 0, none⟩), .int .i64 ((i : Nat) : Int)] H = some (.bool true, H') := fun m' hm' N M S H hS hW hd hG hM => by
      rw [c8_6, ew, hm']
      exact ih (i + 1) m N M s w S H (by omega) hS hW hd hG hM
    have s8 : ∃ H', R8 (m + 3 * r + 2 + 1 + 1) td8_8 [.slice a l c, .pointer (some ⟨s, 0, none⟩), .pointer (some ⟨w, 0, none⟩), .int .i64 ((i : Nat) : Int)] H = some (.bool true, H') := by
      obtain ⟨N', M', S', H1, q, q1, q2, q3, q4, q5⟩ := step8 (c := c) hp h hA hx hil hS hW hd hG hM hl
      obtain ⟨H', hh⟩ := s6 _ rfl N' M' S' H1 q1 q2 q3 q4 q5
      exact ⟨H', (q _).trans hh⟩
    by_cases h1 : 5000 < t.length
    · rw [decide_eq_true (show (5000 : Int) < ((t.length : Nat) : Int) by omega)] at e
      by_cases h2 : t.length ≤ 65536
      · rw [decide_eq_true (show ((t.length : Nat) : Int) ≤ 65536 by omega)] at e
        obtain ⟨H', hh⟩ := s6 (m + 3 * r + 2 + 1 - 1) (by omega) N M S H hS hW hd hG hM
        obtain ⟨H', hh⟩ : ∃ H', R8 (m + 3 * r + 2 + 1 + 1) td8_6 [.slice a l c, .pointer (some ⟨s, 0, none⟩), .pointer (some ⟨w, 0, none⟩), .int .i64 ((i : Nat) : Int)] H = some (.bool true, H') := by
          rw [c8_6, ew, show m + 3 * r + 2 + 1 = (m + 1) + 3 * r + 2 by omega]
          exact ih (i + 1) (m + 1) N M s w S H (by omega) hS hW hd hG hM
        exact ⟨H', e.trans hh⟩
      · rw [decide_eq_false (show ¬ ((t.length : Nat) : Int) ≤ 65536 by omega)] at e
        obtain ⟨H', hh⟩ := s8
        exact ⟨H', e.trans hh⟩
    · rw [decide_eq_false (show ¬ (5000 : Int) < ((t.length : Nat) : Int) by omega)] at e
      obtain ⟨H', hh⟩ := s8
      exact ⟨H', e.trans hh⟩
theorem main8 (hp : Pow H0) (h : Recs recT 1 H0 a l xs) (hl : l * 16 ≤ 140737488351232) (hA : ∀ x, a = some x → x.block < H0.length) : ∃ H', F8 [.slice a l c] H0 = some (.bool true, H') := by
  have f : ∀ k r, fnE Tryz.prog G8 Tryz.f8 cuts8 k [.slice a l c] H0 = some r → F8 [.slice a l c] H0 = some r := fun m r h => FN_of m h (Nat.le_of_ble_eq_true (by kernel_rfl))
  obtain ⟨N, s, H1, c13, hS, hN, hch, hsl⟩ := new13 H0
  obtain ⟨H5, hH5⟩ : ∃ X, X = H1 ++ [.cells [.slice none 0 0, .string (bs []), .bool false, .bool false] 0 true] := ⟨_, rfl⟩
  have c5 : Ch (fun _ => False) H1 H5 := by rw [hH5]; exact Ch.push _ _ _
  have l5 : H5.length = H1.length + 1 := by rw [hH5]; simp
  have hW : Rn (· = H1.length) H1.length Ss.new H5 := ⟨⟨fun k q => by omega, OkV.nil, none, 0, by rw [hH5]; simp [Ss.new], Vec.none 2 _, by simp [ab], rfl, fun j hj => by cases hj⟩, by decide⟩
  have cc := hch.trans c5
  obtain ⟨H6, e10, c10⟩ := works10 (hp.ch cc id)
  have l0 := hch.len
  have e := t8 (0 + 3 * 60 + 2) a l c H0
  rw [ldNIL] at e
  simp only [↓on_of c13, ↓onS, ↓kInt_int, ↓kInt_u8, ↓kBool_bool, ↓kStr_str, ↓kTup_tup, ↓kPtr_ptr, ↓kSl_sl, ↓kAgg_agg, ↓kMp_mp, Option.isNone_some, ← hH5, ↓on_of e10, Bool.not_true] at e
  obtain ⟨H', hh⟩ := loop8 (c := c) hp h hA (by omega) 60 0 0 N (· = H1.length) s H1.length Ss.new H6 (by omega) ((hS.ch c5 fun _ _ => id).ch c10 fun _ _ => id) ⟨hW.st.nil c10, hW.line⟩ (fun k q z => by have := hS.lt k q; omega) (go_nil (cc.trans c10) hN) (fun k q => by omega)
  exact ⟨H', f _ _ (e.trans hh)⟩
end
end Go.Proofs.YtbheppfjaeocpaaGreatDoor
