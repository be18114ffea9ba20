/- r2: the document's session: commands of a name. -/
import Derived.Test.YtbheppfjaeocpaaGreatDoorRe3
set_option linter.unusedVariables false
set_option linter.unusedSimpArgs false
namespace Go.Proofs.YtbheppfjaeocpaaGreatDoor
open Go Go.RowKit Go.Lib Go.Proofs.YtbheppfjaeocpaaGreatDoor.Fw
theorem sz6v' : (⟨#[86, 65, 76, 85, 69, 32]⟩ : ByteArray).size = 6 := rfl
theorem sz6c' : (⟨#[67, 79, 85, 78, 84, 32]⟩ : ByteArray).size = 6 := rfl
section
variable {N : Nat → Prop} {s : Nat} {l : Vs} {v1 v2 v3 : Value} {H : Heap}
theorem find67n (h : Rt N s l v1 v2 v3 H) {n : Tx} (hx : vix n l = none) : F67 [.pointer (some ⟨s, 0, none⟩), .string (bs n)] H = some (.int .i64 (-1), H) := by rw [find67 h, hx]; rfl
theorem find67s (h : Rt N s l v1 v2 v3 H) {n : Tx} {i : Nat} (hx : vix n l = some i) : F67 [.pointer (some ⟨s, 0, none⟩), .string (bs n)] H = some (.int .i64 ((i : Nat) : Int), H) := by rw [find67 h, hx]; rfl
theorem dm1 : decide ((0 : Int) ≤ -1) = false := rfl
theorem one48 (h : Rt N s l v1 v2 v3 H) {w n : Tx} (hw : w = tGET ∨ w = tDEL) :
    ∃ N' H', F48 [.pointer (some ⟨s, 0, none⟩), .string (bs w), .string (bs n)] H = some (.string (bs (aAsk w n l).1), H') ∧ Rt N' s (aAsk w n l).2 v1 v2 v3 H' ∧ Go' N H N' H' := by
  have f : ∀ k r, fnE Tryz.prog G48 Tryz.f48 cuts48 k [.pointer (some ⟨s, 0, none⟩), .string (bs w), .string (bs n)] H = some r → F48 [.pointer (some ⟨s, 0, none⟩), .string (bs w), .string (bs n)] H = some r := fun m r h => FN_of m h (Nat.le_of_ble_eq_true (by kernel_rfl))
  obtain ⟨k, hk⟩ : ∃ k : Nat, k = 0 := ⟨0, rfl⟩
  obtain ⟨a, c, cs, hv, h1, h2, h3⟩ := h.body
  have h64 := h.ok.len
  have hsl := lt_of_at cs
  have hfl := h.ok.find_len n
  have e := t48 (k + 1 + 1) (some ⟨s, 0, none⟩) (bs w) (bs n) H
  unfold aAsk
  cases hx : vix n l with
  | none =>
    rw [vix_none hx]
    simp only [↓on_of (find67n h hx), ↓onS, ↓kInt_int, ↓kInt_u8, ↓kBool_bool, ↓kStr_str, ↓kTup_tup, ↓kPtr_ptr, ↓kSl_sl, ↓kAgg_agg, ↓kMp_mp, eq_lit, dm1] at e
    refine ⟨N, H, f _ _ (e.trans ?_), h, Go'.refl _ _⟩
    have r4 : R48 (k + 1 + 1) td48_4 [.pointer (some ⟨s, 0, none⟩), .string (bs w), .int .i64 (-1)] H = some (.string (bs tNONE), H) := by
      rw [c48_4]
      simp only [eq_lit, dm1]
      cases decide (w = [68, 69, 76]) <;> exact c48_7 _ H
    cases decide (w = [71, 69, 84]) <;> exact r4
  | some i =>
    obtain ⟨v, hi, hfind⟩ := vix_some hx
    have hlt : i < l.length := (List.getElem?_eq_some_iff.1 hi).1
    obtain ⟨j, rs, ha, hj, _, hle, g1, g2⟩ := vec_cell2 hv hi
    subst ha
    simp only [↓on_of (find67s h hx), ↓onS, ↓kInt_int, ↓kInt_u8, ↓kBool_bool, ↓kStr_str, ↓kTup_tup, ↓kPtr_ptr, ↓kSl_sl, ↓kAgg_agg, ↓kMp_mp, eq_lit] at e
    rw [decide_eq_true (show (0 : Int) ≤ ((i : Nat) : Int) by omega)] at e
    rw [hfind] at hfl ⊢
    simp only [Option.getD_some] at hfl
    simp only []
    rcases hw with hw | hw
    · rw [decide_eq_true (show w = [71, 69, 84] from hw)] at e
      simp only [↓onS, ↓kInt_int, ↓kInt_u8, ↓kBool_bool, ↓kStr_str, ↓kTup_tup, ↓kPtr_ptr, ↓kSl_sl, ↓kAgg_agg, ↓kMp_mp, ↓ldc_at cs, List.getElem?_toArray, List.getElem?_cons_zero, List.getElem?_cons_succ] at e
      rw [if_pos ⟨by omega, by omega⟩, Int.toNat_natCast, add0] at e
      simp only [↓ldc_at hj, g2, ↓onS, ↓kInt_int, ↓kInt_u8, ↓kBool_bool, ↓kStr_str, ↓kTup_tup, ↓kPtr_ptr, ↓kSl_sl, ↓kAgg_agg, ↓kMp_mp, bs_size, sz6v'] at e
      rw [if_pos (by omega)] at e
      rw [if_neg (by rw [hw]; decide)]
      refine ⟨N, H, f _ _ (e.trans ?_), h, Go'.refl _ _⟩
      rw [← bs_app]; rfl
    · rw [decide_eq_false (show ¬ w = [71, 69, 84] by rw [hw]; decide)] at e
      simp only [] at e
      rw [c48_4] at e
      simp only [eq_lit] at e
      rw [decide_eq_true (show w = [68, 69, 76] from hw), decide_eq_true (show (0 : Int) ≤ ((i : Nat) : Int) by omega)] at e
      simp only [] at e
      obtain ⟨H3, hH3⟩ : ∃ X, X = H ++ [.cells [] 2 true] := ⟨_, rfl⟩
      have c3 : Ch (fun _ => False) H H3 := by rw [hH3]; exact Ch.push _ _ _
      have l3 : H3.length = H.length + 1 := by rw [hH3]; simp
      have cs3 := c3.at_ cs id
      have hv3 : Vec 2 (· = 2) H3 (some ⟨j, 0, none⟩) l.length c (pc l) := hv.keep fun j hj => c3.kept j (hv.lt hj) id
      have V0 : Vec 2 (· = 2) H3 (some ⟨H.length, 0, none⟩) ([] : Vs).length 0 (pc []) := by rw [hH3]; exact vec_copy0 H
      obtain ⟨a8, c10, p1, _, f1⟩ := vec_part hv3 (x := 0) (y := i) (Nat.zero_le _) (by omega)
      have f1' := fun {β : Type} (K : Nat → List Value → Option β) => f1 H3 (fun _ _ => rfl) K
      rw [Nat.sub_zero] at p1
      rw [Nat.sub_zero, List.drop_zero] at f1'
      have tl : (l.take i).length = i := by rw [List.length_take]; omega
      obtain ⟨a14, c16, H29, ap1, V1, L1, K1, N1⟩ := vec_app2 (l' := l.take i) V0 (by rw [tl]; simp; omega)
      rw [tl] at ap1
      have hN1 : ∀ j, ab a14 = some j → H.length ≤ j := fun j hj => by
        rcases N1 j hj with q | q
        · have : H.length = j := by simpa [ab] using q
          omega
        · omega
      have k29' : ∀ j, j < H.length → H29[j]? = H3[j]? := fun j hj => K1 j (by omega) fun q => by
        have : H.length = j := by simpa [ab] using q
        omega
      have k29 : ∀ j, j < H.length → H29[j]? = H[j]? := fun j hj => (k29' j hj).trans (c3.kept j hj id)
      have hjl : j < H.length := hv.lt rfl
      obtain ⟨a27, c29, p2, _, f3⟩ := vec_part hv3 (x := i + 1) (y := l.length) (by omega) (Nat.le_refl _)
      have f3' := fun {β : Type} (K : Nat → List Value → Option β) => f3 H29 (fun z hz => by
        have : j = z := by simpa [ab] using hz
        rw [← this]; exact k29' j hjl) K
      have dl : (l.drop (i + 1)).take (l.length - (i + 1)) = l.drop (i + 1) := List.take_of_length_le (by simp)
      rw [dl] at f3'
      have dl2 : (l.drop (i + 1)).length = l.length - (i + 1) := by simp
      obtain ⟨a34, c36, H33, ap3, V3, L3, K3, N3⟩ := vec_app2 (l' := l.drop (i + 1)) V1 (by simp; omega)
      rw [dl2] at ap3
      have k33 : ∀ j, j < H.length → H33[j]? = H[j]? := fun j hj => by
        rw [K3 j (by omega) fun q => by have := hN1 j q; omega, k29 j hj]
      have s33 : H33[s]? = some (.cells [.slice (some ⟨j, 0, none⟩) l.length c, v1, v2, v3] 0 true) := (k33 s hsl).trans cs
      have el : [] ++ l.take i ++ l.drop (i + 1) = vdel n l := by rw [vdel_at hx]; simp
      rw [el] at V3
      have hN3 : ∀ j, ab a34 = some j → H.length ≤ j := fun j hj => by
        rcases N3 j hj with q | q
        · exact hN1 j q
        · omega
      obtain ⟨H38, hH38⟩ : ∃ X, X = H33.set s (.cells [.slice a34 (vdel n l).length c36, v1, v2, v3] 0 true) := ⟨_, rfl⟩
      have u1 := fun K : R => unt_of (k29' j hjl) K
      have u2 := fun K : R => unt_of (k29' s hsl) K
      have h0 : ((0 : Nat) : Int) = 0 := rfl
      rw [h0] at p1
      have hn0 : (Value.slice (some ⟨H.length, 0, none⟩) 0 0) = Value.slice (some ⟨H.length, 0, none⟩) ([] : Vs).length 0 := rfl
      simp only [← hH3, ↓onS, ↓kInt_int, ↓kInt_u8, ↓kBool_bool, ↓kStr_str, ↓kTup_tup, ↓kPtr_ptr, ↓kSl_sl, ↓kAgg_agg, ↓kMp_mp, ↓ldc_at cs3, List.getElem?_toArray, List.getElem?_cons_zero, List.getElem?_cons_succ, p1, wrap_succ (show i + 1 < 9223372036854775808 by omega), p2, Option.map_some, f1', hn0, ap1, u1, u2, f3', ap3] at e
      rw [st_one (a := ⟨s, 0, none⟩) s33 (by simp) rfl] at e
      simp only [List.set_cons_zero, el, ← hH38, c48_6] at e
      rw [if_pos hw]
      have cc : Ch N H H38 := ⟨by rw [hH38, List.length_set]; omega, fun z hz hn => by
        rw [hH38, List.getElem?_set_ne (fun q => hn (by rw [← q]; exact h2)), k33 z hz]⟩
      refine ⟨nx N H H38, H38, f _ _ e, ⟨fun z hz => ?_, h.ok.del n, a34, c36, ?_, ?_, fun q => by have := hN3 s q; omega, .inl h2, fun z hz => .inr ⟨hN3 z hz, by rw [hH38, List.length_set]; exact V3.lt hz⟩⟩, go_nx cc⟩
      · rcases hz with hz | hz
        · have := h.lt z hz; have := cc.len; omega
        · exact hz.2
      · rw [hH38]; exact at_set_self (lt_of_at s33) _
      · refine V3.keep fun z hz => ?_
        rw [hH38]
        exact List.getElem?_set_ne (by have := hN3 z hz; omega)
theorem add50 (h : Rt N s l v1 v2 v3 H) {n b : Tx} (hn : n.length ≤ 32) (hb : b.length ≤ 256) :
    ∃ N' H', F50 [.pointer (some ⟨s, 0, none⟩), .string (bs n), .string (bs b)] H = some (.string (bs (aAdd n b l).1), H') ∧ Rt N' s (aAdd n b l).2 v1 v2 v3 H' ∧ Go' N H N' H' := by
  have f : ∀ k r, fnE Tryz.prog G50 Tryz.f50 cuts50 k [.pointer (some ⟨s, 0, none⟩), .string (bs n), .string (bs b)] H = some r → F50 [.pointer (some ⟨s, 0, none⟩), .string (bs n), .string (bs b)] H = some r := fun m r h => FN_of m h (Nat.le_of_ble_eq_true (by kernel_rfl))
  obtain ⟨k, hk⟩ : ∃ k : Nat, k = 0 := ⟨0, rfl⟩
  obtain ⟨a, c, cs, hv, h1, h2, h3⟩ := h.body
  have h64 := h.ok.len
  have b1 := num_bd b
  have b2 := num_bd ((vfind n l).getD [])
  have hfl := h.ok.find_len n
  have e := t50 (k + 1 + 1) (some ⟨s, 0, none⟩) (bs n) (bs b) H
  simp only [↓on_of (whole68 b H (by omega)), ↓onS, ↓kInt_int, ↓kInt_u8, ↓kBool_bool, ↓kStr_str, ↓kTup_tup, ↓kPtr_ptr, ↓kSl_sl, ↓kAgg_agg, ↓kMp_mp, List.getElem?_toArray, List.getElem?_cons_zero, List.getElem?_cons_succ] at e
  unfold aAdd
  cases hq : num b with
  | none =>
    rw [hq] at e
    exact ⟨N, H, f _ _ e, h, Go'.refl _ _⟩
  | some x =>
    rw [hq] at e b1
    simp only [Option.isSome_some, Bool.not_true, Option.getD_some] at e b1
    have e2 : fnE Tryz.prog G50 Tryz.f50 cuts50 (k + 1 + 1) [.pointer (some ⟨s, 0, none⟩), .string (bs n), .string (bs b)] H = R50 (k + 1 + 1) td50_8 [.pointer (some ⟨s, 0, none⟩), .string (bs n), .int .i64 x, .int .i64 (old n l)] H := by
      rw [e]
      cases hx : vix n l with
      | none =>
        simp only [↓on_of (find67n h hx), ↓onS, ↓kInt_int, ↓kInt_u8, ↓kBool_bool, ↓kStr_str, ↓kTup_tup, ↓kPtr_ptr, ↓kSl_sl, ↓kAgg_agg, ↓kMp_mp, dm1]
        rw [old_eq, vix_none hx]
        rfl
      | some i =>
        obtain ⟨v, hi, hfind⟩ := vix_some hx
        have hlt : i < l.length := (List.getElem?_eq_some_iff.1 hi).1
        obtain ⟨j, rs, ha, hj, _, hle, g1, g2⟩ := vec_cell2 hv hi
        subst ha
        rw [hfind, Option.getD_some] at hfl
        simp only [↓on_of (find67s h hx), ↓onS, ↓kInt_int, ↓kInt_u8, ↓kBool_bool, ↓kStr_str, ↓kTup_tup, ↓kPtr_ptr, ↓kSl_sl, ↓kAgg_agg, ↓kMp_mp]
        rw [decide_eq_true (show (0 : Int) ≤ ((i : Nat) : Int) by omega)]
        simp only [↓onS, ↓kInt_int, ↓kInt_u8, ↓kBool_bool, ↓kStr_str, ↓kTup_tup, ↓kPtr_ptr, ↓kSl_sl, ↓kAgg_agg, ↓kMp_mp, ↓ldc_at cs, List.getElem?_toArray, List.getElem?_cons_zero, List.getElem?_cons_succ]
        rw [if_pos ⟨by omega, by omega⟩, Int.toNat_natCast, add0]
        simp only [↓ldc_at hj, g2, ↓onS, ↓kInt_int, ↓kInt_u8, ↓kBool_bool, ↓kStr_str, ↓kTup_tup, ↓kPtr_ptr, ↓kSl_sl, ↓kAgg_agg, ↓kMp_mp, ↓on_of (whole68 v H (by omega)), List.getElem?_toArray, List.getElem?_cons_zero, List.getElem?_cons_succ]
        rw [old_eq, hfind]; rfl
    rw [← old_eq] at b2
    rw [c50_8, wrap_in (n := old n l + x) ⟨by omega, by omega⟩] at e2
    simp only []
    by_cases hs1 : old n l + x ≤ -1000000000
    · have hbig : big (old n l + x) = true := by unfold big; rw [decide_eq_true hs1]; simp
      rw [decide_eq_true hs1] at e2
      rw [hbig]
      exact ⟨N, H, f _ _ (e2.trans (c50_10 _ H)), h, Go'.refl _ _⟩
    by_cases hs2 : 1000000000 ≤ old n l + x
    · have hbig : big (old n l + x) = true := by unfold big; rw [decide_eq_true hs2]; simp
      rw [decide_eq_false hs1, decide_eq_true hs2] at e2
      rw [hbig]
      exact ⟨N, H, f _ _ (e2.trans (c50_10 _ H)), h, Go'.refl _ _⟩
    have hbig : big (old n l + x) = false := by unfold big; rw [decide_eq_false hs1, decide_eq_false hs2]; rfl
    rw [decide_eq_false hs1, decide_eq_false hs2] at e2
    rw [hbig]
    simp only [Bool.false_eq_true, if_false]
    obtain ⟨I, hI⟩ : ∃ I, I = Lib.itoa (old n l + x) := ⟨_, rfl⟩
    have hil : I.length ≤ 21 := by rw [hI]; exact itoa_len (by omega) (by omega)
    obtain ⟨H1, c45, ch1⟩ := digits45 (n := old n l + x) (by omega) (by omega) H
    have hh1 : Rt N s l v1 v2 v3 H1 := h.nil ch1
    obtain ⟨N2, H2, c49, s49, g2⟩ := set49 hh1 (n := n) (v := I) hn (by omega)
    have g2' : Go' N H N2 H2 := (Go'.trans ⟨ch1.mono fun _ q => q.elim, fun k q => .inl q⟩ g2)
    simp only [↓on_of c45, ↓onS, ↓kInt_int, ↓kInt_u8, ↓kBool_bool, ↓kStr_str, ↓kTup_tup, ↓kPtr_ptr, ↓kSl_sl, ↓kAgg_agg, ↓kMp_mp, ← hI, ↓on_of c49] at e2
    rw [← hI]
    cases hs : vset n I l with
    | none =>
      rw [hs] at e2 s49
      exact ⟨N2, H2, f _ _ e2, s49, g2'⟩
    | some l' =>
      rw [hs] at e2 s49
      obtain ⟨H3, c45', ch3⟩ := digits45 (n := old n l + x) (by omega) (by omega) H2
      simp only [Option.getD_some, Option.isSome_some, Bool.not_true, ↓on_of c45', ↓onS, ↓kInt_int, ↓kInt_u8, ↓kBool_bool, ↓kStr_str, ↓kTup_tup, ↓kPtr_ptr, ↓kSl_sl, ↓kAgg_agg, ↓kMp_mp, ← hI, bs_size, sz6v'] at e2 s49
      rw [if_pos (by omega)] at e2
      refine ⟨N2, H3, f _ _ (e2.trans ?_), s49.nil ch3, g2'.new ch3 fun _ q => q.elim⟩
      rw [← bs_app]; rfl
theorem app51 (h : Rt N s l v1 v2 v3 H) {n b : Tx} (hn : n.length ≤ 32) (hb : b.length ≤ 256) :
    ∃ N' H', F51 [.pointer (some ⟨s, 0, none⟩), .string (bs n), .string (bs b)] H = some (.string (bs (aApp n b l).1), H') ∧ Rt N' s (aApp n b l).2 v1 v2 v3 H' ∧ Go' N H N' H' := by
  have f : ∀ k r, fnE Tryz.prog G51 Tryz.f51 cuts51 k [.pointer (some ⟨s, 0, none⟩), .string (bs n), .string (bs b)] H = some r → F51 [.pointer (some ⟨s, 0, none⟩), .string (bs n), .string (bs b)] H = some r := fun m r h => FN_of m h (Nat.le_of_ble_eq_true (by kernel_rfl))
  obtain ⟨k, hk⟩ : ∃ k : Nat, k = 0 := ⟨0, rfl⟩
  obtain ⟨a, c, cs, hv, h1, h2, h3⟩ := h.body
  have h64 := h.ok.len
  have hfl := h.ok.find_len n
  have e := t51 (k + 1 + 1) (some ⟨s, 0, none⟩) (bs n) (bs b) H
  have e2 : fnE Tryz.prog G51 Tryz.f51 cuts51 (k + 1 + 1) [.pointer (some ⟨s, 0, none⟩), .string (bs n), .string (bs b)] H = R51 (k + 1 + 1) td51_5 [.pointer (some ⟨s, 0, none⟩), .string (bs n), .string (bs b), .string (bs ((vfind n l).getD []))] H := by
    rw [e]
    cases hx : vix n l with
    | none =>
      simp only [↓on_of (find67n h hx), ↓onS, ↓kInt_int, ↓kInt_u8, ↓kBool_bool, ↓kStr_str, ↓kTup_tup, ↓kPtr_ptr, ↓kSl_sl, ↓kAgg_agg, ↓kMp_mp, dm1]
      rw [vix_none hx]
      rfl
    | some i =>
      obtain ⟨v, hi, hfind⟩ := vix_some hx
      have hlt : i < l.length := (List.getElem?_eq_some_iff.1 hi).1
      obtain ⟨j, rs, ha, hj, _, hle, g1, g2⟩ := vec_cell2 hv hi
      subst ha
      simp only [↓on_of (find67s h hx), ↓onS, ↓kInt_int, ↓kInt_u8, ↓kBool_bool, ↓kStr_str, ↓kTup_tup, ↓kPtr_ptr, ↓kSl_sl, ↓kAgg_agg, ↓kMp_mp]
      rw [decide_eq_true (show (0 : Int) ≤ ((i : Nat) : Int) by omega)]
      simp only [↓onS, ↓kInt_int, ↓kInt_u8, ↓kBool_bool, ↓kStr_str, ↓kTup_tup, ↓kPtr_ptr, ↓kSl_sl, ↓kAgg_agg, ↓kMp_mp, ↓ldc_at cs, List.getElem?_toArray, List.getElem?_cons_zero, List.getElem?_cons_succ]
      rw [if_pos ⟨by omega, by omega⟩, Int.toNat_natCast, add0]
      simp only [↓ldc_at hj, g2, ↓onS, ↓kInt_int, ↓kInt_u8, ↓kBool_bool, ↓kStr_str, ↓kTup_tup, ↓kPtr_ptr, ↓kSl_sl, ↓kAgg_agg, ↓kMp_mp]
      rw [hfind]; rfl
  unfold aApp
  obtain ⟨V, hV⟩ : ∃ V, V = (vfind n l).getD [] ++ b := ⟨_, rfl⟩
  have hVl : V.length = ((vfind n l).getD []).length + b.length := by rw [hV]; simp
  have ew : IntKind.i64.wrap (((((vfind n l).getD []).length : Nat) : Int) + ((b.length : Nat) : Int)) = ((V.length : Nat) : Int) := by
    rw [wrap_in ⟨by omega, by omega⟩]; omega
  rw [c51_5] at e2
  simp only [bs_size, ew, bs_app, ← hV] at e2 ⊢
  by_cases h2 : 200 < V.length
  · rw [decide_eq_true (show (200 : Int) < ((V.length : Nat) : Int) by omega)] at e2
    rw [if_pos (show Nat.blt 200 V.length = true from Nat.ble_eq_true_of_le h2)]
    exact ⟨N, H, f _ _ (e2.trans (c51_6 _ H)), h, Go'.refl _ _⟩
  rw [decide_eq_false (show ¬ (200 : Int) < ((V.length : Nat) : Int) by omega)] at e2
  rw [if_neg (show ¬ Nat.blt 200 V.length = true from fun q => h2 (Nat.le_of_ble_eq_true q))]
  simp only [] at e2
  rw [if_pos (by omega)] at e2
  obtain ⟨N2, H2, c49, s49, g2⟩ := set49 h (n := n) (v := V) hn (by omega)
  simp only [↓on_of c49, ↓onS, ↓kInt_int, ↓kInt_u8, ↓kBool_bool, ↓kStr_str, ↓kTup_tup, ↓kPtr_ptr, ↓kSl_sl, ↓kAgg_agg, ↓kMp_mp] at e2
  cases hs : vset n V l with
  | none =>
    rw [hs] at e2 s49
    exact ⟨N2, H2, f _ _ (e2.trans (c51_6 _ H2)), s49, g2⟩
  | some l' =>
    rw [hs] at e2 s49
    obtain ⟨H3, c45, ch3⟩ := digits45 (n := ((V.length : Nat) : Int)) (by omega) (by omega) H2
    have := itoa_len (n := ((V.length : Nat) : Int)) (by omega) (by omega)
    simp only [Option.getD_some, Option.isSome_some, Bool.not_true, ↓on_of c45, ↓onS, ↓kInt_int, ↓kInt_u8, ↓kBool_bool, ↓kStr_str, ↓kTup_tup, ↓kPtr_ptr, ↓kSl_sl, ↓kAgg_agg, ↓kMp_mp, bs_size, sz6c'] at e2 s49
    rw [if_pos (by omega)] at e2
    refine ⟨N2, H3, f _ _ (e2.trans ?_), s49.nil ch3, g2.new ch3 fun _ q => q.elim⟩
    rw [← bs_app]; rfl
end
end Go.Proofs.YtbheppfjaeocpaaGreatDoor
