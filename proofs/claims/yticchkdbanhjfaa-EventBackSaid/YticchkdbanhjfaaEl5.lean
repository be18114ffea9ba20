/- EventLogs: an event more. -/
import Derived.Test.YticchkdbanhjfaaEl4
set_option linter.unusedVariables false
set_option linter.unusedSimpArgs false
namespace Go.Proofs.Yticchkdbanhjfaa
open Go Go.RowKit Go.Proofs.Yticchkdbanhjfaa.Fw
def bx (e : Ev) : AObj := .cells e.cs 0 true
theorem range_cs (e : Ev) : range e.cs 0 3 = e.cs := rfl
theorem cs_len (e : Ev) : (0 + 3 ≤ e.cs.length) = True := by simp [Ev.cs]
theorem n_at (e : Ev) (K : Value → R) : onSome e.cs[0 + 1]? K = K (.int .i64 e.n) := rfl
theorem ldc_bx {H : Heap} {j : Nat} {e : Ev} (h : H[j]? = some (bx e)) (k : List Value → R) : ldc H j k = k e.cs := ldc_at h k
theorem firstC_blk {H : Heap} {b n : Nat} {cs : List Value} {o : Bool} {ez : Nat} (h : H[b]? = some (.cells cs ez o)) (hn : cs.length = n) (k : Nat → List Value → R) : firstC H n (.slice (some ⟨b, 0, none⟩) 1 1) k = k 1 cs := by
  simp only [firstC, ldc, h]
  rw [if_pos (by omega)]
  unfold range
  rw [List.drop_zero, List.take_of_length_le (by omega)]
theorem firstC_vec {Z : Nat → Prop} {H : Heap} {a : Option Addr} {l c n : Nat} {vs : List Value} (h : Vec n Z H a l c vs) (k : Nat → List Value → R) : firstC H n (.slice a l c) k = k l vs := by
  obtain ⟨h0, h⟩ := h
  rcases h with ⟨rfl, rfl, rfl⟩ | ⟨j, cs, ez, _, rfl, hj, ht, _⟩
  · have : vs = [] := by simpa using h0
    subst this
    rfl
  · have hle := Vec.len_le (H := H) (c := c) (j := j) h0 ht
    simp only [firstC, ldc, hj]
    rw [if_pos (by omega)]
    unfold range
    rw [List.drop_zero, ht]
section
variable {N : Nat → Prop} {b : Nat} {es : List Ev} {H : Heap}
theorem cond3 (e : Ev) (x y : R) : (if 0 + 3 ≤ e.cs.length then x else y) = x := if_pos (by simp [Ev.cs])
theorem add14 (h : Lg N b es H) (hle : es.length ≤ 4096) (e : Ev) : ∃ N' H', F14 [.pointer (some ⟨b, 0, none⟩), .agg e.cs.toArray] H = some (.tuple #[.int .i64 (addM es e).2.1, .int .i64 (addM es e).2.2], H') ∧ Lg N' b (addM es e).1 H' ∧ Gone N H N' H' := by
  have f : ∀ m r, fnE Try.prog G14 Try.f14 cuts14 m [.pointer (some ⟨b, 0, none⟩), .agg e.cs.toArray] H = some r → F14 [.pointer (some ⟨b, 0, none⟩), .agg e.cs.toArray] H = some r := fun m r h => FN_of m h (Nat.le_of_ble_eq_true (by kernel_rfl))
  obtain ⟨m, hm⟩ : ∃ m : Nat, m = 0 := ⟨0, rfl⟩
  have e1 := t14 (m + 1) (some ⟨b, 0, none⟩) e.k e.n (bs e.s) H
  obtain ⟨H2, hH2⟩ : ∃ H2, H2 = (H ++ [bx e]) ++ [bx e] := ⟨_, rfl⟩
  have eb : AObj.cells [.int .i64 e.k, .int .i64 e.n, .string (bs e.s)] 0 true = bx e := rfl
  have hj1 : (H ++ [bx e])[H.length]? = some (bx e) := by simp
  have hj2 : H2[H.length]? = some (bx e) := by rw [hH2, List.append_assoc]; simp
  have c : F47 [.agg e.cs.toArray] (H ++ [bx e]) = some (.int .i64 (match ok e with | true => 0 | false => 230), H2) := by rw [hH2]; exact chk47 _ e
  have hL : Lg N b es H2 := by rw [hH2]; exact (h.push _).push _
  have hlen2 : H2.length = H.length + 2 := by rw [hH2]; simp
  have hk2 : ∀ k, k < H.length → H2[k]? = H[k]? := fun k hk => by rw [hH2, List.append_assoc]; exact List.getElem?_append_left hk
  have hG : Gone N H N H2 := ⟨by omega, fun k h => .inl h, fun k hk _ => hk2 k hk⟩
  simp only [eb, ↓onS, ↓kInt_int, ↓kInt_u8, ↓kBool_bool, ↓kStr_str, ↓kTup_tup, ↓kPtr_ptr, ↓kSl_sl, ↓kAgg_agg, ↓ldc_bx hj1, ↓cond3, range_cs, ↓on_of c] at e1
  unfold addM
  rcases Bool.eq_false_or_eq_true (ok e) with h1 | h1
  case inr =>
    simp only [h1, show ((230 : Int) != 0) = true from rfl] at e1
    exact ⟨N, H2, by simp only [h1]; exact f _ _ e1, by simp only [h1]; exact hL, hG⟩
  simp only [h1, bne_self_eq_false, ↓onS, ↓kInt_int, ↓kInt_u8, ↓kBool_bool, ↓kStr_str, ↓kTup_tup, ↓kPtr_ptr, ↓kSl_sl, ↓kAgg_agg, ↓ldc_bx hj2, ↓n_at, ↓on_of (now17 hL hle), ↓unt_same] at e1
  rcases Bool.eq_false_or_eq_true (decide (e.n < nowM es)) with h2 | h2
  · simp only [h2] at e1
    exact ⟨N, H2, by simp only [h1, h2]; exact f _ _ e1, by simp only [h1, h2]; exact hL, hG⟩
  obtain ⟨a, cp, hb, hv, hab, hown⟩ := hL.body
  simp only [h2, ↓onS, ↓kInt_int, ↓kInt_u8, ↓kBool_bool, ↓kStr_str, ↓kTup_tup, ↓kPtr_ptr, ↓kSl_sl, ↓kAgg_agg, ↓ldc_at hb, List.getElem?_toArray, List.getElem?_cons_zero, List.getElem?_cons_succ] at e1
  rcases Bool.eq_false_or_eq_true (decide ((4096 : Int) ≤ ((es.length : Nat) : Int))) with h3 | h3
  · simp only [h3] at e1
    exact ⟨N, H2, by simp only [h1, h2, h3]; exact f _ _ e1, by simp only [h1, h2, h3]; exact hL, hG⟩
  have hlt : es.length < 4096 := by have := of_decide_eq_false h3; omega
  obtain ⟨a', c', H3, app1, V, L3, K3, N3⟩ := (hv.keep (H' := H2 ++ [.cells e.cs 3 true]) (fun j hj => List.getElem?_append_left (hv.lt hj))).app (P := Try.prog) (e := 40) c40 (fun ez h => h) z40 (n := 1) (nw := e.cs) rfl (by rw [b40]; omega) (by omega)
  have hbl : b < H2.length := hL.lt b hL.nb
  have hb3 : H3[b]? = some (.cells [.slice a es.length cp] 0 true) := by
    rw [K3 b (by simp; omega) hab, List.getElem?_append_left hbl]; exact hb
  have f1 : ∀ K : Nat → List Value → R, firstC (H2 ++ [.cells e.cs 3 true]) 3 (.slice (some ⟨H2.length, 0, none⟩) 1 1) K = K 1 e.cs := fun K => firstC_blk (cs := e.cs) (ez := 3) (o := true) (by simp) rfl K
  have hs : ∀ K : Value → Heap → R, st 1 H3 ⟨b, 0, none⟩ (.slice a' (es.length + 1) c') K = K undef (H3.set b (.cells [.slice a' (es.length + 1) c'] 0 true)) := fun K => by
    rw [st_one hb3 (by simp) rfl]; rfl
  have hb3l : b < H3.length := (List.getElem?_eq_some_iff.1 hb3).1
  have hb4 : (H3.set b (.cells [.slice a' (es.length + 1) c'] 0 true))[b]? = some (.cells [.slice a' (es.length + 1) c'] 0 true) := by simp [hb3l]
  simp only [h3, ↓onS, ↓kInt_int, ↓kInt_u8, ↓kBool_bool, ↓kStr_str, ↓kTup_tup, ↓kPtr_ptr, ↓kSl_sl, ↓kAgg_agg, ↓ldc_bx hj2, ↓cond3, range_cs, ↓cellsOks1, fill3, List.toList_toArray, f1, app1, hs, c14_9, ↓ldc_at hb4, List.getElem?_toArray, List.getElem?_cons_zero, List.getElem?_cons_succ] at e1
  simp only [List.length_append, List.length_cons, List.length_nil] at L3 K3 N3
  have hab' : ab a' ≠ some b := fun e => by
    rcases N3 b e with q | q
    · exact hab q
    · omega
  refine ⟨fun k => N k ∨ (H.length ≤ k ∧ k < (H3.set b (.cells [.slice a' (es.length + 1) c'] 0 true)).length), _, by simp only [h1, h2, h3]; exact f _ _ e1, ?_, ?_⟩
  · simp only [h1, h2, h3]
    have hv4 : Vec 3 Z3 (H3.set b (.cells [.slice a' (es.length + 1) c'] 0 true)) a' (es.length + 1) c' (fe (es ++ [e])) := by
      rw [fe_snoc]
      exact V.keep fun j hj => List.getElem?_set_ne (fun q => hab' (by rw [q]; exact hj))
    refine Lg.anew (H := H) h (by simp) hv4 hb4 (e0 := 0) (cs0 := []) (by simp; omega) hab' fun j hj => ?_
    have jl := V.lt hj
    rcases N3 j hj with q | q
    · rcases Nat.lt_or_ge j H.length with q2 | q2
      · exact .inl (hown j q)
      · exact .inr ⟨q2, by simpa using jl⟩
    · exact .inr ⟨by omega, by simpa using jl⟩
  · refine ⟨by simp; omega, fun k hk => by rcases hk with hk | hk; exact .inl hk; exact .inr hk.1, fun k hk hn => ?_⟩
    have hkb : k ≠ b := fun q => hn (q ▸ h.nb)
    rw [List.getElem?_set_ne (Ne.symm hkb), K3 k (by omega) (fun q => hn (hown k q)), List.getElem?_append_left (by omega)]
    exact hk2 k hk
theorem add15 (h : Lg N b es H) (hle : es.length ≤ 4096) (e : Ev) : ∃ N' H', F15 [.pointer (some ⟨b, 0, none⟩), .agg e.cs.toArray] H = some (.tuple #[.int .i64 (addM es e).2.1, .int .i64 (addM es e).2.2], H') ∧ Lg N' b (addM es e).1 H' ∧ Gone N H N' H' := by
  have f : ∀ m r, fnE Try.prog G15 Try.f15 cuts15 m [.pointer (some ⟨b, 0, none⟩), .agg e.cs.toArray] H = some r → F15 [.pointer (some ⟨b, 0, none⟩), .agg e.cs.toArray] H = some r := fun m r h => FN_of m h (Nat.le_of_ble_eq_true (by kernel_rfl))
  obtain ⟨m, hm⟩ : ∃ m : Nat, m = 0 := ⟨0, rfl⟩
  have e1 := t15 (m + 1) (some ⟨b, 0, none⟩) e.k e.n (bs e.s) H
  obtain ⟨H2, hH2⟩ : ∃ H2, H2 = (H ++ [bx e]) ++ [bx e] := ⟨_, rfl⟩
  have eb : AObj.cells [.int .i64 e.k, .int .i64 e.n, .string (bs e.s)] 0 true = bx e := rfl
  have hj1 : (H ++ [bx e])[H.length]? = some (bx e) := by simp
  have hj2 : H2[H.length]? = some (bx e) := by rw [hH2, List.append_assoc]; simp
  have c : F48 [.agg e.cs.toArray] (H ++ [bx e]) = some (.int .i64 (match ok e with | true => 0 | false => 230), H2) := by rw [hH2]; exact chk48 _ e
  have hL : Lg N b es H2 := by rw [hH2]; exact (h.push _).push _
  have hlen2 : H2.length = H.length + 2 := by rw [hH2]; simp
  have hk2 : ∀ k, k < H.length → H2[k]? = H[k]? := fun k hk => by rw [hH2, List.append_assoc]; exact List.getElem?_append_left hk
  have hG : Gone N H N H2 := ⟨by omega, fun k h => .inl h, fun k hk _ => hk2 k hk⟩
  simp only [eb, ↓onS, ↓kInt_int, ↓kInt_u8, ↓kBool_bool, ↓kStr_str, ↓kTup_tup, ↓kPtr_ptr, ↓kSl_sl, ↓kAgg_agg, ↓ldc_bx hj1, ↓cond3, range_cs, ↓on_of c] at e1
  unfold addM
  rcases Bool.eq_false_or_eq_true (ok e) with h1 | h1
  case inr =>
    simp only [h1, show ((230 : Int) != 0) = true from rfl] at e1
    exact ⟨N, H2, by simp only [h1]; exact f _ _ e1, by simp only [h1]; exact hL, hG⟩
  simp only [h1, bne_self_eq_false, ↓onS, ↓kInt_int, ↓kInt_u8, ↓kBool_bool, ↓kStr_str, ↓kTup_tup, ↓kPtr_ptr, ↓kSl_sl, ↓kAgg_agg, ↓ldc_bx hj2, ↓n_at, ↓on_of (now18 hL hle), ↓unt_same] at e1
  rcases Bool.eq_false_or_eq_true (decide (e.n < nowM es)) with h2 | h2
  · simp only [h2] at e1
    exact ⟨N, H2, by simp only [h1, h2]; exact f _ _ e1, by simp only [h1, h2]; exact hL, hG⟩
  obtain ⟨a, cp, hb, hv, hab, hown⟩ := hL.body
  simp only [h2, ↓onS, ↓kInt_int, ↓kInt_u8, ↓kBool_bool, ↓kStr_str, ↓kTup_tup, ↓kPtr_ptr, ↓kSl_sl, ↓kAgg_agg, ↓ldc_at hb, List.getElem?_toArray, List.getElem?_cons_zero, List.getElem?_cons_succ] at e1
  rcases Bool.eq_false_or_eq_true (decide ((4096 : Int) ≤ ((es.length : Nat) : Int))) with h3 | h3
  · simp only [h3] at e1
    exact ⟨N, H2, by simp only [h1, h2, h3]; exact f _ _ e1, by simp only [h1, h2, h3]; exact hL, hG⟩
  have hlt : es.length < 4096 := by have := of_decide_eq_false h3; omega
  have hbl : b < H2.length := hL.lt b hL.nb
  -- the row made anew, and the event's
  obtain ⟨H19, h19⟩ : ∃ X, X = H2 ++ [AObj.cells [] 3 true] := ⟨_, rfl⟩
  obtain ⟨H28, h28⟩ : ∃ X, X = H19 ++ [AObj.cells e.cs 3 true] := ⟨_, rfl⟩
  have l19 : H19.length = H2.length + 1 := by rw [h19]; simp
  have l28 : H28.length = H2.length + 2 := by rw [h28]; simp; omega
  have k19 : ∀ k, k < H2.length → H19[k]? = H2[k]? := fun k hk => by rw [h19]; exact List.getElem?_append_left hk
  have k28 : ∀ k, k < H2.length → H28[k]? = H2[k]? := fun k hk => by rw [h28, List.getElem?_append_left (by omega)]; exact k19 k hk
  have n28 : H28[H2.length]? = some (.cells [] 3 true) := by rw [h28, List.getElem?_append_left (by omega), h19]; simp
  have e28 : H28[H19.length]? = some (.cells e.cs 3 true) := by rw [h28]; simp
  have hb19 : H19[b]? = some (.cells [.slice a es.length cp] 0 true) := (k19 b hbl).trans hb
  have hj19 : H19[H.length]? = some (bx e) := (k19 _ (by omega)).trans hj2
  have hv28 : Vec 3 Z3 H28 a es.length cp (fe es) := hv.keep fun j hj => k28 j (hv.lt hj)
  have hnew : Vec 3 Z3 H28 (some ⟨H2.length, 0, none⟩) 0 0 [] := ⟨rfl, .inr ⟨H2.length, [], 3, by unfold Z3; decide, rfl, n28, rfl, .inr ⟨Nat.le_refl _, by simp⟩⟩⟩
  have fv := fun K : Nat → List Value → R => firstC_vec hv28 K
  obtain ⟨a1, c1, H32, app1, V1, L1, K1, N1⟩ := hnew.app (P := Try.prog) (e := 40) c40 (fun ez h => h) z40 (n := es.length) (nw := fe es) (fe_len es) (by rw [b40]; omega) (by omega)
  simp only [Nat.zero_add, List.nil_append] at app1 V1
  have keep32 : ∀ k, k < H28.length → k ≠ H2.length → H32[k]? = H28[k]? := fun k hk hn => K1 k hk (fun q => hn (by simpa [ab] using q.symm))
  have u1 : H32[H19.length]? = H28[H19.length]? := keep32 _ (by omega) (by omega)
  have u2 : H32[H.length]? = H28[H.length]? := keep32 _ (by omega) (by omega)
  have e32 : H32[H19.length]? = some (.cells e.cs 3 true) := u1.trans e28
  have f1 : ∀ K : Nat → List Value → R, firstC H32 3 (.slice (some ⟨H19.length, 0, none⟩) 1 1) K = K 1 e.cs := fun K => firstC_blk e32 rfl K
  obtain ⟨a', c', H39, app2, V2, L2, K2, N2⟩ := V1.app (P := Try.prog) (e := 40) c40 (fun ez h => h) z40 (n := 1) (nw := e.cs) rfl (by rw [b40]; omega) (by omega)
  have ab1 : ∀ j, ab a1 = some j → H2.length ≤ j := fun j hj => by
    rcases N1 j hj with q | q
    · have : H2.length = j := by simpa [ab] using q
      omega
    · omega
  have ab2 : ∀ j, ab a' = some j → H2.length ≤ j := fun j hj => by
    rcases N2 j hj with q | q
    · exact ab1 j q
    · omega
  have kAll : ∀ k, k < H2.length → H39[k]? = H2[k]? := fun k hk => by
    rw [K2 k (by omega) (fun q => by have := ab1 k q; omega), keep32 k (by omega) (by omega)]
    exact k28 k hk
  have hb3 : H39[b]? = some (.cells [.slice a es.length cp] 0 true) := (kAll b hbl).trans hb
  have hb3l : b < H39.length := (List.getElem?_eq_some_iff.1 hb3).1
  have hs : ∀ K : Value → Heap → R, st 1 H39 ⟨b, 0, none⟩ (.slice a' (es.length + 1) c') K = K undef (H39.set b (.cells [.slice a' (es.length + 1) c'] 0 true)) := fun K => by
    rw [st_one hb3 (by simp) rfl]; rfl
  have hb4 : (H39.set b (.cells [.slice a' (es.length + 1) c'] 0 true))[b]? = some (.cells [.slice a' (es.length + 1) c'] 0 true) := by simp [hb3l]
  simp only [h3, ← h19, ↓onS, ↓kInt_int, ↓kInt_u8, ↓kBool_bool, ↓kStr_str, ↓kTup_tup, ↓kPtr_ptr, ↓kSl_sl, ↓kAgg_agg, ↓ldc_at hb19, ↓ldc_bx hj19, ↓cond3, range_cs, ↓cellsOks1, fill3, List.toList_toArray, ← h28, fv, app1, ↓unt_of u1, ↓unt_of u2, f1, app2, hs, c15_9, ↓ldc_at hb4, List.getElem?_toArray, List.getElem?_cons_zero, List.getElem?_cons_succ] at e1
  have hab' : ab a' ≠ some b := fun q => by have := ab2 b q; omega
  refine ⟨fun k => N k ∨ (H.length ≤ k ∧ k < (H39.set b (.cells [.slice a' (es.length + 1) c'] 0 true)).length), _, by simp only [h1, h2, h3]; exact f _ _ e1, ?_, ?_⟩
  · simp only [h1, h2, h3]
    have hv4 : Vec 3 Z3 (H39.set b (.cells [.slice a' (es.length + 1) c'] 0 true)) a' (es.length + 1) c' (fe (es ++ [e])) := by
      rw [fe_snoc]
      exact V2.keep fun j hj => List.getElem?_set_ne (fun q => hab' (by rw [q]; exact hj))
    refine Lg.anew (H := H) h (by simp) hv4 hb4 (e0 := 0) (cs0 := []) (by simp; omega) hab' fun j hj => ?_
    have jl := V2.lt hj
    have := ab2 j hj
    exact .inr ⟨by omega, by simpa using jl⟩
  · refine ⟨by simp; omega, fun k hk => by rcases hk with hk | hk; exact .inl hk; exact .inr hk.1, fun k hk hn => ?_⟩
    have hkb : k ≠ b := fun q => hn (q ▸ h.nb)
    rw [List.getElem?_set_ne (Ne.symm hkb), kAll k (by omega)]
    exact hk2 k hk
end
end Go.Proofs.Yticchkdbanhjfaa
