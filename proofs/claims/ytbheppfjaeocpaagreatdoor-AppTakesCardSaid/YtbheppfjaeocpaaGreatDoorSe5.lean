/- r2: the names of a session; the answer to a line. -/
import Derived.Test.YtbheppfjaeocpaaGreatDoorSe4
import Derived.Lib.Join
set_option linter.unusedVariables false
set_option linter.unusedSimpArgs false
namespace Go.Proofs.YtbheppfjaeocpaaGreatDoor
open Go Go.RowKit Go.Lib Go.Proofs.YtbheppfjaeocpaaGreatDoor.Fw
/-- The names, as cells. -/
def nmC (l : Vs) : List Value := l.map fun p => .string (bs p.1)
theorem sorted_keys {e0 l : Vs} (hp : e0.Perm l) (hr : Rising l) : (e0.map (·.1)).mergeSort leB = l.map (·.1) := by
  rw [mergeSort_of_perm (hp.map (·.1))]
  refine List.mergeSort_of_pairwise ?_
  rw [List.pairwise_map]
  refine List.Pairwise.imp (fun {a b} h => ?_) hr
  simp only [leB, decide_eq_true_eq]
  exact Std.le_of_lt h
section
variable {s m : Nat} {v1 v2 v3 : Value} {l : Vs} {H : Heap}
/-- A new row that holds the names; nil if there is none. -/
structure Nms (H0 : Heap) (a : Option Addr) (c : Nat) (l : Vs) (H : Heap) : Prop where
  row : (a = none ∧ c = 0 ∧ l = []) ∨ ∃ j, H0.length ≤ j ∧ a = some ⟨j, 0, none⟩ ∧ c = unk ∧ H[j]? = some (.cells (nmC l) 1 true)
theorem sorted31 (h : St s m v1 v2 v3 l H) (H1 : Heap) (hH1 : H1 = H ++ [.cells [.map (some m)] 31457280 true]) : ∃ a c g, F31 [.func (.func 43) #[] #[.pointer (some ⟨H.length, 0, none⟩)]] H1 = some (.slice a l.length c, H1 ++ g) ∧ Nms H a c l (H1 ++ g) := by
  obtain ⟨es, h1, e0, rfl, hp⟩ := h.mp
  have hb : H1[H.length]? = some (.cells [.map (some m)] (tz 0 29) true) := by rw [hH1]; simp; decide
  have hm1 : H1[m]? = some (.map (e0.map encP)) := by rw [hH1]; exact at_push h1 _
  have hk : keyTx (e0.map encP) = some (e0.map fun p => bs p.1) := by
    unfold keyTx
    have : (e0.map encP).map (·.1) = (e0.map fun p => bs p.1).map Value.string := by simp [encP]
    rw [this, textsOf_map]
  have hd : (e0.map fun p => bs p.1).map (fun k : ByteArray => k.data.toList) = e0.map (·.1) := by
    rw [List.map_map]
    refine List.map_congr_left fun p _ => ?_
    simp [bs]
  have hnd : (e0.map (·.1)).Nodup := (hp.map _).nodup_iff.2 h.ok.rise.nod
  have hlen := hp.length_eq
  have hl64 := h.ok.len
  have hsz : ∀ k ∈ e0.map (fun p => bs p.1), k.size ≤ maxLen := fun k hk => by
    obtain ⟨p, hp', rfl⟩ := List.mem_map.1 hk
    have := h.ok.keys p (hp.mem_iff.1 hp')
    rw [bs_size]
    have : maxLen = 9223372036854775807 := rfl
    omega
  have hF : F31 [.func (.func 43) #[] #[.pointer (some ⟨H.length, 0, none⟩)]] H1 = (match e0.map (fun p => bs p.1) with
      | [] => some (.slice none 0 0, H1)
      | _ :: _ => some (.slice (some ⟨H1.length, 0, none⟩) (e0.map fun p => bs p.1).length unk, H1 ++ [.cells (((e0.map fun p => bs p.1).map (fun k : ByteArray => k.data.toList)).mergeSort leB |>.map fun k => .string (bs k)) 1 true])) := by
    simp only [F31, hb]
    rw [if_pos ⟨trivial, trivial, trivial⟩, ldm_at hm1]
    simp only [hk, ↓onS]
    rw [if_pos ⟨by rw [hd]; exact hnd, hsz, by simp; omega⟩]
    rfl
  rw [hd, sorted_keys hp h.ok.rise] at hF
  cases e0 with
  | nil =>
    have hl : l = [] := by simpa using hlen.symm
    subst hl
    exact ⟨none, 0, [], by rw [hF, List.append_nil]; rfl, ⟨.inl ⟨rfl, rfl, rfl⟩⟩⟩
  | cons p r =>
    refine ⟨some ⟨H1.length, 0, none⟩, unk, [.cells ((l.map (·.1)).map fun k => .string (bs k)) 1 true], ?_, ⟨.inr ⟨H1.length, by rw [hH1]; simp, rfl, rfl, ?_⟩⟩⟩
    · rw [hF, ← hlen]
      simp
    · simp [nmC]
theorem keys32 (r : Option Nat) (H : Heap) : F32 [.map r] H = some (.func (.func 43) #[] #[.pointer (some ⟨H.length, 0, none⟩)], H ++ [.cells [.map r] 31457280 true]) := FN_of 1 (t32 1 r H) (Nat.le_of_ble_eq_true (by kernel_rfl))
/-- Names. -/
theorem names17 (h : St s m v1 v2 v3 l H) : ∃ a c g, F17 [.pointer (some ⟨s, 0, none⟩)] H = some (.slice a l.length c, H ++ g) ∧ Nms H a c l (H ++ g) := by
  obtain ⟨H1, hH1⟩ : ∃ H1, H1 = H ++ [.cells [.map (some m)] 31457280 true] := ⟨_, rfl⟩
  obtain ⟨a, c, g, e31, hn⟩ := sorted31 h H1 hH1
  refine ⟨a, c, [.cells [.map (some m)] 31457280 true] ++ g, ?_, ?_⟩
  · refine FN_of 1 ((t17 1 (some ⟨s, 0, none⟩) H).trans ?_) (Nat.le_of_ble_eq_true (by kernel_rfl))
    simp only [↓onS, ↓kInt_int, ↓kInt_u8, ↓kBool_bool, ↓kStr_str, ↓kTup_tup, ↓kPtr_ptr, ↓kSl_sl, ↓kAgg_agg, ↓kMp_mp, ↓ldc_at h.cs, List.getElem?_toArray, List.getElem?_cons_zero, List.getElem?_cons_succ, ↓on_of (keys32 _ _), ← hH1, ↓on_of e31]
    rw [hH1, List.append_assoc]
  · rw [hH1, List.append_assoc] at hn
    exact hn
theorem tList_join (l : Vs) : Lib.join (tLIST :: l.map (·.1)) [32] = tList l := by
  rw [Lib.join_cons]
  unfold Lib.joinTail tList
  rw [List.map_map]; rfl
theorem tList_len {l : Vs} (h : OkV l) : (tList l).length ≤ 2116 := by
  unfold tList
  have key : ∀ r : Vs, (∀ p ∈ r, p.1.length ≤ 32) → ((r.map fun p => (32 : UInt8) :: p.1).flatten).length ≤ 33 * r.length := by
    intro r
    induction r with
    | nil => simp
    | cons p r ih =>
      intro hp
      have h1 := hp p List.mem_cons_self
      have h2 := ih fun q hq => hp q (List.mem_cons_of_mem _ hq)
      simp only [List.map_cons, List.flatten_cons, List.length_append, List.length_cons]
      omega
  have := key l h.keys
  have h64 := h.len
  rw [List.length_append, show tLIST.length = 4 from rfl]
  omega
theorem join74 {H : Heap} {a : Option Addr} {n c : Nat} {xs : List Tx} (hv : Vec 1 (· = 1) H a n c (xs.map fun t => .string (bs t))) (hn : 0 < n) (hN : n ≤ 140737488355328) (hj : (Lib.join xs [32]).length ≤ 140737488355328) : F74 [.slice a n c, .string (⟨#[32]⟩ : ByteArray)] H = some (.string (bs (Lib.join xs [32])), H) := by
  obtain ⟨j, cs, ez, rfl, rfl, hj', ht, hle⟩ := hv.at_ hn
  have hxl : xs.length = n := by have := hv.1; simpa using this
  rw [Nat.mul_one] at ht
  have e1 : textsOf ((cs.drop 0).take n) = some (xs.map bs) := by
    rw [List.drop_zero, ht, show (xs.map fun t => Value.string (bs t)) = (xs.map bs).map Value.string by simp, textsOf_map]
  have e2 : (xs.map bs).map (fun k : ByteArray => k.data.toList) = xs := by
    rw [List.map_map]
    conv => rhs; rw [← List.map_id xs]
    refine List.map_congr_left fun p _ => ?_
    simp [bs]
  simp only [F74, ↓ldc_at hj', e1, ↓onS, e2]
  rw [if_pos ⟨by rw [List.length_map, hxl], hn, hN, hj⟩]
theorem c9' : Tryz.prog.cellsOf 9 = 1 := by kernel_rfl
theorem b9' : Tryz.prog.bytesOf 9 = 16 := by kernel_rfl
theorem e9' : tyE Tryz.prog 9 = 1 := by kernel_rfl
theorem one9 : ∀ ez, ez = 1 → szOk ez 1 9 = true := fun ez hz => by subst hz; kernel_rfl
/-- Commands of one word. -/
theorem plain59 (h : St s m v1 v2 v3 l H) (hp : Pow H) (t : Tx) (ht : t.length ≤ 256) :
    ∃ H' b, F59 [.pointer (some ⟨s, 0, none⟩), .string (bs t)] H = some (.tuple #[.string (bs (if b then (aLine t l).1 else [])), .bool b], H') ∧ (b = decide (t = tLIST ∨ t = tCOUNT ∨ t = tQUIT)) ∧ (b = true → St s m v1 v2 (if (aLine t l).2.2 then .bool true else v3) (aLine t l).2.1 H') ∧ (b = false → H' = H) ∧ Ch (fun k => k = s ∨ k = m) H H' := by
  have f : ∀ k r, fnE Tryz.prog G59 Tryz.f59 cuts59 k [.pointer (some ⟨s, 0, none⟩), .string (bs t)] H = some r → F59 [.pointer (some ⟨s, 0, none⟩), .string (bs t)] H = some r := fun m r h => FN_of m h (Nat.le_of_ble_eq_true (by kernel_rfl))
  have e := t59 1 (some ⟨s, 0, none⟩) (bs t) H
  simp only [eq_lit] at e
  by_cases h1 : t = tLIST
  · rw [decide_eq_true (show t = [76, 73, 83, 84] from h1)] at e
    obtain ⟨H2, hH2⟩ : ∃ H2, H2 = H ++ [.cells [.string (bs t)] 1 true] := ⟨_, rfl⟩
    have c2 : Ch (fun k => k = s ∨ k = m) H H2 := by rw [hH2]; exact Ch.push _ _ _
    have c2' : Ch (fun _ => False) H H2 := by rw [hH2]; exact Ch.push _ _ _
    have h2 : St s m v1 v2 v3 l H2 := h.ch c2' id id
    obtain ⟨a, c, g, e17, hn⟩ := names17 h2
    have hat : H2[H.length]? = some (.cells [.string (bs t)] 1 true) := by rw [hH2]; simp
    have hv0 : Vec 1 (· = 1) (H2 ++ g) (some ⟨H.length, 0, none⟩) 1 1 [.string (bs t)] := ⟨rfl, .inr ⟨H.length, _, 1, rfl, rfl, at_push hat g, rfl, .inr ⟨Nat.le_refl _, by simp⟩⟩⟩
    have hf : ∀ K : Nat → List Value → R, firstC (H2 ++ g) 1 (.slice a l.length c) K = K l.length (nmC l) := fun K => by
      rcases hn.row with ⟨rfl, rfl, rfl⟩ | ⟨j, hj, rfl, rfl, hat⟩
      · rfl
      · simp only [firstC, ldc, hat]
        rw [if_pos (by simp [nmC])]
        unfold range
        rw [List.drop_zero, List.take_of_length_le (by simp [nmC])]
    have h64 := h.ok.len
    obtain ⟨a', c', H3, app1, V, L3, K3, N3⟩ := hv0.app (P := Tryz.prog) (e := 9) (Z := (· = 1)) c9' one9 e9' (n := l.length) (nw := nmC l) (by simp [nmC]) (by rw [b9']; omega) (by omega)
    have hcells : [Value.string (bs t)] ++ nmC l = (tLIST :: l.map (·.1)).map fun x => .string (bs x) := by rw [h1]; simp [nmC]
    rw [hcells] at V
    have hj := join74 V (by omega) (by omega) (by rw [tList_join]; have := tList_len h.ok; omega)
    rw [tList_join] at hj
    simp only [↓onS, ↓kInt_int, ↓kInt_u8, ↓kBool_bool, ↓kStr_str, ↓kTup_tup, ↓kPtr_ptr, ↓kSl_sl, ↓kAgg_agg, ↓kMp_mp, ← hH2, ↓on_of e17, hf, app1, ↓on_of hj] at e
    have hc3 : Ch (fun _ => False) H H3 := by
      have hl2 : H2.length = H.length + 1 := by rw [hH2]; simp
      refine ⟨by rw [List.length_append] at L3; omega, fun k hk _ => ?_⟩
      rw [K3 k (by rw [List.length_append]; omega) (by simp [ab]; omega), List.getElem?_append_left (by omega), hH2, List.getElem?_append_left hk]
    have hA : aLine t l = (tList l, l, false) := by unfold aLine; rw [if_pos h1]
    rw [hA]
    exact ⟨H3, true, f _ _ e, by rw [decide_eq_true (.inl h1)], fun _ => h.ch hc3 id id, fun q => (by cases q), hc3.mono fun _ q => q.elim⟩
  rw [decide_eq_false (show ¬ t = [76, 73, 83, 84] from h1)] at e
  by_cases h2 : t = tCOUNT
  · rw [decide_eq_true (show t = [67, 79, 85, 78, 84] from h2)] at e
    obtain ⟨es, m1, m2⟩ := h.mp
    have h64 := h.ok.len
    simp only [↓onS, ↓kInt_int, ↓kInt_u8, ↓kBool_bool, ↓kStr_str, ↓kTup_tup, ↓kPtr_ptr, ↓kSl_sl, ↓kAgg_agg, ↓kMp_mp, ↓ldc_at h.cs, List.getElem?_toArray, List.getElem?_cons_zero, List.getElem?_cons_succ, ↓ldmo_at m1, m2.len, ↓on_of (F14_eq hp (n := ((l.length : Nat) : Int)) (by omega) (by omega))] at e
    have hil := itoa_len (n := ((l.length : Nat) : Int)) (by omega) (by omega)
    rw [if_pos (show (⟨#[67, 79, 85, 78, 84, 32]⟩ : ByteArray).size + (bs (Lib.itoa ((l.length : Nat) : Int))).size ≤ 9223372036854775807 by rw [bs_size, show (⟨#[67, 79, 85, 78, 84, 32]⟩ : ByteArray).size = 6 from rfl]; omega)] at e
    have hA : aLine t l = (tCOUNTs ++ Lib.itoa l.length, l, false) := by unfold aLine; rw [if_neg h1, if_pos h2]
    rw [hA]
    refine ⟨H, true, f _ _ (e.trans ?_), by rw [decide_eq_true (.inr (.inl h2))], fun _ => h, fun q => (by cases q), Ch.refl _ _⟩
    rw [show (if true = true then (tCOUNTs ++ Lib.itoa l.length, l, false).1 else []) = tCOUNTs ++ Lib.itoa l.length from rfl, ← bs_app]; rfl
  rw [decide_eq_false (show ¬ t = [67, 79, 85, 78, 84] from h2)] at e
  by_cases h3 : t = tQUIT
  · rw [decide_eq_true (show t = [81, 85, 73, 84] from h3)] at e
    have hst : ∀ K : Value → Heap → R, st 1 H ⟨s, 0 + 3, none⟩ (.bool true) K = K undef (H.set s (.cells [.map (some m), v1, v2, .bool true] 0 true)) := fun K => by
      rw [st_one (a := ⟨s, 0 + 3, none⟩) h.cs (by simp) rfl]; rfl
    simp only [↓onS, ↓kInt_int, ↓kInt_u8, ↓kBool_bool, ↓kStr_str, ↓kTup_tup, ↓kPtr_ptr, ↓kSl_sl, ↓kAgg_agg, ↓kMp_mp, hst] at e
    have hA : aLine t l = (tBYE, l, true) := by unfold aLine; rw [if_neg h1, if_neg h2, if_pos h3]
    rw [hA]
    obtain ⟨es, m1, m2⟩ := h.mp
    exact ⟨_, true, f _ _ e, by rw [decide_eq_true (.inr (.inr h3))], fun _ => ⟨h.ne, at_set_self (lt_of_at h.cs) _, ⟨es, at_set m1 h.ne.symm, m2⟩, h.ok⟩, fun q => (by cases q), Ch.set (N := fun k => k = s ∨ k = m) (.inl rfl) _⟩
  rw [decide_eq_false (show ¬ t = [81, 85, 73, 84] from h3)] at e
  exact ⟨H, false, f _ _ e, by rw [decide_eq_false (by simp [h1, h2, h3])], fun q => (by cases q), fun _ => rfl, Ch.refl _ _⟩
theorem aCmd_change {w n v : Tx} {l : Vs} (hw : w = tPUT ∨ w = tADD ∨ w = tAPP) : aCmd w n v true l = aChange w n v l := by
  unfold aCmd aChange
  rcases hw with rfl | rfl | rfl
  · rw [if_neg (by decide), if_pos rfl, if_pos rfl, if_neg (by decide), if_neg (by decide)]
  · rw [if_neg (by decide), if_neg (by decide), if_pos rfl, if_pos rfl, if_pos rfl]
  · rw [if_neg (by decide), if_neg (by decide), if_neg (by decide), if_pos rfl, if_pos rfl, if_neg (by decide), if_pos rfl]
/-- The answer to a line. -/
theorem ans40 (h : St s m v1 v2 v3 l H) (hp : Pow H) (t : Tx) (ht : t.length ≤ 256) :
    ∃ H', F40 [.pointer (some ⟨s, 0, none⟩), .string (bs t)] H = some (.string (bs (aLine t l).1), H') ∧ St s m v1 v2 (if (aLine t l).2.2 then .bool true else v3) (aLine t l).2.1 H' ∧ Ch (fun k => k = s ∨ k = m) H H' := by
  have f : ∀ k r, fnE Tryz.prog G40 Tryz.f40 cuts40 k [.pointer (some ⟨s, 0, none⟩), .string (bs t)] H = some r → F40 [.pointer (some ⟨s, 0, none⟩), .string (bs t)] H = some r := fun m r h => FN_of m h (Nat.le_of_ble_eq_true (by kernel_rfl))
  obtain ⟨k, hk⟩ : ∃ k : Nat, k = 0 := ⟨0, rfl⟩
  have e := t40 (k + 1 + 1 + 1 + 1) (some ⟨s, 0, none⟩) (bs t) H
  obtain ⟨H1, b, c59, hb, hst, hsame, hch⟩ := plain59 h hp t ht
  simp only [↓on_of c59, ↓onS, ↓kInt_int, ↓kInt_u8, ↓kBool_bool, ↓kStr_str, ↓kTup_tup, ↓kPtr_ptr, ↓kSl_sl, ↓kAgg_agg, ↓kMp_mp, List.getElem?_toArray, List.getElem?_cons_zero, List.getElem?_cons_succ] at e
  cases b with
  | true => exact ⟨H1, f _ _ e, hst rfl, hch⟩
  | false =>
    obtain rfl := hsame rfl
    have hno : ¬ (t = tLIST ∨ t = tCOUNT ∨ t = tQUIT) := of_decide_eq_false hb.symm
    have n1 : ¬ t = tLIST := fun q => hno (.inl q)
    have n2 : ¬ t = tCOUNT := fun q => hno (.inr (.inl q))
    have n3 : ¬ t = tQUIT := fun q => hno (.inr (.inr q))
    obtain ⟨W, hW⟩ : ∃ W, W = (cutB t).1 := ⟨_, rfl⟩
    obtain ⟨T2, hT2⟩ : ∃ T2, T2 = (cutB t).2.1 := ⟨_, rfl⟩
    obtain ⟨O, hO⟩ : ∃ O, O = (cutB t).2.2 := ⟨_, rfl⟩
    obtain ⟨Nm, hNm⟩ : ∃ W, W = (cutB T2).1 := ⟨_, rfl⟩
    obtain ⟨Vl, hVl⟩ : ∃ W, W = (cutB T2).2.1 := ⟨_, rfl⟩
    obtain ⟨M, hM⟩ : ∃ O, O = (cutB T2).2.2 := ⟨_, rfl⟩
    have hl1 := cutB_len t
    have hl2 := cutB_len T2
    rw [← hT2] at hl1
    rw [← hNm, ← hVl] at hl2
    have hA : aLine t l = if O && isNm Nm then ((aCmd W Nm Vl M l).1, (aCmd W Nm Vl M l).2, false) else (tBAD, l, false) := by
      unfold aLine
      rw [if_neg n1, if_neg n2, if_neg n3, ← hW, ← hO, ← hT2, ← hNm, ← hVl, ← hM]
    simp only [↓on_of (cut60 t H1 (by omega)), ↓onS, ↓kInt_int, ↓kInt_u8, ↓kBool_bool, ↓kStr_str, ↓kTup_tup, ↓kPtr_ptr, ↓kSl_sl, ↓kAgg_agg, ↓kMp_mp, List.getElem?_toArray, List.getElem?_cons_zero, List.getElem?_cons_succ, ← hW, ← hT2, ← hO, ↓on_of (cut60 T2 H1 (by omega)), ← hNm, ← hVl, ← hM, ↓on_of (name61 Nm H1), c40_7, eq_lit] at e
    have bad : aLine t l = (tBAD, l, false) → (some (.string (⟨#[66, 65, 68]⟩ : ByteArray), H1) : R) = fnE Tryz.prog G40 Tryz.f40 cuts40 (k + 1 + 1 + 1 + 1) [.pointer (some ⟨s, 0, none⟩), .string (bs t)] H1 →
        ∃ H', F40 [.pointer (some ⟨s, 0, none⟩), .string (bs t)] H1 = some (.string (bs (aLine t l).1), H') ∧ St s m v1 v2 (if (aLine t l).2.2 then .bool true else v3) (aLine t l).2.1 H' ∧ Ch (fun k => k = s ∨ k = m) H1 H' := fun q q2 => by
      rw [q]
      exact ⟨H1, f _ _ q2.symm, h, Ch.refl _ _⟩
    cases O with
    | false =>
      simp only [Bool.not_false] at e
      exact bad (by rw [hA]; rfl) e.symm
    | true =>
      simp only [Bool.not_true] at e
      cases hn : isNm Nm with
      | false =>
        simp only [hn, Bool.not_false] at e
        exact bad (by rw [hA, hn]; rfl) e.symm
      | true =>
        simp only [hn, Bool.not_true] at e
        rw [hn, Bool.true_and, if_pos rfl] at hA
        have hnl : Nm.length ≤ 32 := by
          unfold isNm at hn
          simp only [Bool.and_eq_true] at hn
          exact Nat.le_of_ble_eq_true hn.1.2
        have r14 : ∀ (hw : W = tGET ∨ W = tDEL), R40 (k + 1 + 1 + 1 + 1) td40_14 [.pointer (some ⟨s, 0, none⟩), .string (bs W), .string (bs Nm), .bool M] H1 = fnE Tryz.prog G40 Tryz.f40 cuts40 (k + 1 + 1 + 1 + 1) [.pointer (some ⟨s, 0, none⟩), .string (bs t)] H1 →
            ∃ H', F40 [.pointer (some ⟨s, 0, none⟩), .string (bs t)] H1 = some (.string (bs (aLine t l).1), H') ∧ St s m v1 v2 (if (aLine t l).2.2 then .bool true else v3) (aLine t l).2.1 H' ∧ Ch (fun k => k = s ∨ k = m) H1 H' := fun hw q => by
          have hC : aCmd W Nm Vl M l = if M then (tBAD, l) else aAsk W Nm l := by unfold aCmd; rw [if_pos hw]
          rw [c40_14] at q
          cases M with
          | true =>
            simp only [Bool.not_true, c40_18] at q
            exact bad (by rw [hA, hC]; rfl) q
          | false =>
            obtain ⟨H2, c62, s62, ch⟩ := ask62 h (w := W) (n := Nm)
            simp only [Bool.not_false, ↓on_of c62, ↓onS, ↓kInt_int, ↓kInt_u8, ↓kBool_bool, ↓kStr_str, ↓kTup_tup, ↓kPtr_ptr, ↓kSl_sl, ↓kAgg_agg, ↓kMp_mp] at q
            rw [hA, hC]
            exact ⟨H2, f _ _ q.symm, s62, ch.mono fun _ q => .inr q⟩
        have r16 : ∀ (j : Nat) (hw : W = tPUT ∨ W = tADD ∨ W = tAPP), R40 (j + 1 + 1) td40_16 [.pointer (some ⟨s, 0, none⟩), .string (bs W), .string (bs Nm), .string (bs Vl), .bool M] H1 = fnE Tryz.prog G40 Tryz.f40 cuts40 (k + 1 + 1 + 1 + 1) [.pointer (some ⟨s, 0, none⟩), .string (bs t)] H1 →
            ∃ H', F40 [.pointer (some ⟨s, 0, none⟩), .string (bs t)] H1 = some (.string (bs (aLine t l).1), H') ∧ St s m v1 v2 (if (aLine t l).2.2 then .bool true else v3) (aLine t l).2.1 H' ∧ Ch (fun k => k = s ∨ k = m) H1 H' := fun j hw q => by
          rw [c40_16] at q
          cases M with
          | true =>
            obtain ⟨H2, c63, s63, ch⟩ := chg63 h hp (w := W) (n := Nm) (b := Vl) hnl (by omega)
            simp only [↓on_of c63, ↓onS, ↓kInt_int, ↓kInt_u8, ↓kBool_bool, ↓kStr_str, ↓kTup_tup, ↓kPtr_ptr, ↓kSl_sl, ↓kAgg_agg, ↓kMp_mp] at q
            rw [hA, aCmd_change hw]
            exact ⟨H2, f _ _ q.symm, s63, ch.mono fun _ q => .inr q⟩
          | false =>
            simp only [c40_18] at q
            have hC : aCmd W Nm Vl false l = (tBAD, l) := by
              unfold aCmd
              rcases hw with rfl | rfl | rfl
              · rw [if_neg (by decide), if_pos rfl]; rfl
              · rw [if_neg (by decide), if_neg (by decide), if_pos rfl]; rfl
              · rw [if_neg (by decide), if_neg (by decide), if_neg (by decide), if_pos rfl]; rfl
            exact bad (by rw [hA, hC]) q
        by_cases w1 : W = tGET
        · rw [decide_eq_true (show W = [71, 69, 84] from w1)] at e
          exact r14 (.inl w1) e.symm
        rw [decide_eq_false (show ¬ W = [71, 69, 84] from w1)] at e
        by_cases w2 : W = tDEL
        · rw [decide_eq_true (show W = [68, 69, 76] from w2)] at e
          exact r14 (.inr w2) e.symm
        rw [decide_eq_false (show ¬ W = [68, 69, 76] from w2)] at e
        simp only [c40_11, eq_lit] at e
        by_cases w3 : W = tPUT
        · rw [decide_eq_true (show W = [80, 85, 84] from w3)] at e
          exact r16 _ (.inl w3) e.symm
        rw [decide_eq_false (show ¬ W = [80, 85, 84] from w3)] at e
        by_cases w4 : W = tADD
        · rw [decide_eq_true (show W = [65, 68, 68] from w4)] at e
          exact r16 _ (.inr (.inl w4)) e.symm
        rw [decide_eq_false (show ¬ W = [65, 68, 68] from w4)] at e
        simp only [c40_13, eq_lit] at e
        by_cases w5 : W = tAPP
        · rw [decide_eq_true (show W = [65, 80, 80] from w5)] at e
          exact r16 _ (.inr (.inr w5)) e.symm
        rw [decide_eq_false (show ¬ W = [65, 80, 80] from w5)] at e
        simp only [c40_18] at e
        refine bad ?_ e.symm
        rw [hA]
        unfold aCmd
        rw [if_neg (by simp [w1, w2]), if_neg w3, if_neg w4, if_neg w5]
end
end Go.Proofs.YtbheppfjaeocpaaGreatDoor
