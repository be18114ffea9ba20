/- r3: SockNumbers: an act that listens. -/
import Derived.Test.YtlpeldimmaajkaaGreatSkC
set_option linter.unusedVariables false
set_option linter.unusedSimpArgs false
namespace Go.Proofs.YtlpeldimmaajkaaGreat
open Go Go.RowKit Go.Lib Go.Proofs.YtlpeldimmaajkaaGreat.Fw
section
variable {b t f m m2 m3 pb ub L i : Nat} {E : List En} {U : List (Int × Bool)} {H0 H : Heap}
theorem act_used (h : Li b t f m m2 m3 pb ub L E U i H0 H) (hi : i < 30) {l c2 : Nat} (hil : i < l) {ad : Addr} {cs : List Value} {own : Bool} {v : Int} (hat : H[ad.block]? = some (.cells cs 1 own)) (hget : cs[ad.off + i * 1]? = some (.int .i64 v)) (h6 : v % 12 < 6) (hu : (fi En.port (100 + v % 12) E).isSome = true) :
    ∃ q H', (∀ k, R3 (k + q) td3_100007 [.slice (some ad) l c2, .pointer (some ⟨b, 0, none⟩), .map (some pb), .map (some ub), .int .i64 ((i : Nat) : Int)] H = R3 k td3_100007 [.slice (some ad) l c2, .pointer (some ⟨b, 0, none⟩), .map (some pb), .map (some ub), .int .i64 ((i + 1 : Nat) : Int)] H') ∧ Li b t f m m2 m3 pb ub L E U (i + 1) H0 H' ∧ q ≤ 40 := by
  have h0 : 0 ≤ v % 12 := Int.emod_nonneg v (by decide)
  obtain ⟨k, hk⟩ := least_ex h.bx.ndf
  have hkl := least_le h.bx.ndf hk
  have hlen := h.len
  have ew : IntKind.i64.wrap (100 + v % 12) = 100 + v % 12 := wrap_in ⟨by omega, by omega⟩
  have ei : IntKind.i64.wrap (((i : Nat) : Int) + 1) = ((i + 1 : Nat) : Int) := wrap_succ (by omega)
  obtain ⟨E', r, H2, rfl, e19, hr, hB, fr, lr, lo⟩ := ask_used h.bx ((i : Nat) : Int) (100 + v % 12) ((i : Nat) : Int) (by omega) (by omega) hu hk (by omega)
  obtain ⟨po, us⟩ := h.maps fr
  obtain ⟨lo1, lo2⟩ := lo L h.lo h.ll
  have hus := fun (K : Value → R) => look34 (κ := Prod.fst) (ν := Prod.snd) (l := U) us (v % 12) K
  have hb29 : ((fi Prod.fst (v % 12) U).map Prod.snd).getD false = true := by rw [h.uok _ h0 h6]; exact hu
  refine ⟨3, H2, fun k => ?_, ⟨hB, lo1, fun j hj => (lo2 j hj).trans (h.kept j hj), Nat.le_trans h.ll fr.len, h.pl, h.ul, h.pf, h.pm, h.uf, h.um, h.pu, h.p3, h.u3, po, us, h.uok, h.eok, by omega⟩, by omega⟩
  rw [show k + 3 = k + 1 + 1 + 1 by omega, c3_100007, decide_eq_true (show ((i : Nat) : Int) < ((l : Nat) : Int) by omega), decide_eq_true (show ((i : Nat) : Int) < 30 by omega)]
  simp only [↓onS, ↓kInt_int, ↓kInt_u8, ↓kBool_bool, ↓kStr_str, ↓kTup_tup, ↓kPtr_ptr, ↓kSl_sl, ↓kAgg_agg, ↓kMp_mp]
  rw [if_pos ⟨by omega, by omega⟩]
  simp only [Int.toNat_natCast, add_block, add_off, ↓ldc_at hat, hget, ↓onS, ↓kInt_int, ↓kInt_u8, ↓kBool_bool, ↓kStr_str, ↓kTup_tup, ↓kPtr_ptr, ↓kSl_sl, ↓kAgg_agg, ↓kMp_mp, ↓on_of (among18 v (n := 12) (by decide) (by decide) H)]
  rw [decide_eq_true h6]
  simp only [ew, ↓on_of e19, ↓onS, ↓kInt_int, ↓kInt_u8, ↓kBool_bool, ↓kStr_str, ↓kTup_tup, ↓kPtr_ptr, ↓kSl_sl, ↓kAgg_agg, ↓kMp_mp, List.getElem?_toArray, List.getElem?_cons_zero, List.getElem?_cons_succ]
  rw [show (((1 : Nat) : Int) != 1) = false from rfl]
  simp only [↓onS, ↓kInt_int, ↓kInt_u8, ↓kBool_bool, ↓kStr_str, ↓kTup_tup, ↓kPtr_ptr, ↓kSl_sl, ↓kAgg_agg, ↓kMp_mp]
  have q1 : (DC (i : Int) 190 0 0 (⟨#[]⟩ : ByteArray))[0 + 0 + 1]? = some (.int .i64 190) := rfl
  have z1 : 0 ≤ (0 : Int) ∧ (0 : Int) < ((1 : Nat) : Int) := ⟨by omega, by omega⟩
  rw [if_pos z1]
  simp only [show ((0 : Int).toNat * 5) = 0 from rfl, ↓ldc_at hr, q1, ↓onS, ↓kInt_int, ↓kInt_u8, ↓kBool_bool, ↓kStr_str, ↓kTup_tup, ↓kPtr_ptr, ↓kSl_sl, ↓kAgg_agg, ↓kMp_mp, hus, hb29]
  have b1 : (!(((190 : Int) == 0) == (!true))) = false := rfl
  have b2 : ((190 : Int) != 0) = true := rfl
  simp only [b1, b2, z1, if_true, and_self, ↓ldc_at hr, q1, ↓onS, ↓kInt_int, ↓kInt_u8, ↓kBool_bool, ↓kStr_str, ↓kTup_tup, ↓kPtr_ptr, ↓kSl_sl, ↓kAgg_agg, ↓kMp_mp, bne_self_eq_false, c3_14, hus, hb29, c3_8, ei]
theorem act_new (h : Li b t f m m2 m3 pb ub L E U i H0 H) (hi : i < 30) {l c2 : Nat} (hil : i < l) {ad : Addr} {cs : List Value} {own : Bool} {v : Int} (hat : H[ad.block]? = some (.cells cs 1 own)) (hget : cs[ad.off + i * 1]? = some (.int .i64 v)) (h6 : v % 12 < 6) (hu : fi En.port (100 + v % 12) E = none) :
    ∃ q E' U' H', (∀ k, R3 (k + q) td3_100007 [.slice (some ad) l c2, .pointer (some ⟨b, 0, none⟩), .map (some pb), .map (some ub), .int .i64 ((i : Nat) : Int)] H = R3 k td3_100007 [.slice (some ad) l c2, .pointer (some ⟨b, 0, none⟩), .map (some pb), .map (some ub), .int .i64 ((i + 1 : Nat) : Int)] H') ∧ Li b t f m m2 m3 pb ub L E' U' (i + 1) H0 H' ∧ q ≤ 40 := by
  have h0 : 0 ≤ v % 12 := Int.emod_nonneg v (by decide)
  obtain ⟨n, hn⟩ := least_ex h.bx.ndf
  have hnl := least_le h.bx.ndf hn
  have hlen := h.len
  have ew : IntKind.i64.wrap (100 + v % 12) = 100 + v % 12 := wrap_in ⟨by omega, by omega⟩
  have ei : IntKind.i64.wrap (((i : Nat) : Int) + 1) = ((i + 1 : Nat) : Int) := wrap_succ (by omega)
  obtain ⟨E', r, H2, ⟨L', rfl⟩, e19, hr, hB, fr, lr, lo⟩ := ask_new h.bx ((i : Nat) : Int) (100 + v % 12) ((i : Nat) : Int) (by omega) (by omega) hu hn (by omega)
  obtain ⟨po, us⟩ := h.maps fr
  obtain ⟨lo1, lo2⟩ := lo L h.lo h.ll
  have hus := fun (K : Value → R) => look34 (κ := Prod.fst) (ν := Prod.snd) (l := U) us (v % 12) K
  have hb29 : ((fi Prod.fst (v % 12) U).map Prod.snd).getD false = false := by rw [h.uok _ h0 h6, hu]; rfl
  obtain ⟨H3, hH3⟩ : ∃ X, X = (H2.set pb (.map (mp En.fd poV (E ++ [⟨n, L', 100 + v % 12⟩])))).set ub (.map (mp Prod.fst usV (ups (v % 12) true U))) := ⟨_, rfl⟩
  have ch3 : Ch (fun k => k = pb ∨ k = ub) H2 H3 := by
    rw [hH3]
    exact (Ch.set (N := fun k => k = pb ∨ k = ub) (.inl rfl) _).trans (Ch.set (N := fun k => k = pb ∨ k = ub) (.inr rfl) _)
  have pbl := lt_of_at po
  have ubl := lt_of_at us
  have hw := fun (k : Nat) => want16 (b := b) (r := r) po us h.pu hr hn (by omega) (fun e he => (h.eok e he).1) h0 h6 ⟨n, L', 100 + v % 12⟩ rfl rfl (some ad) l c2 ((i : Nat) : Int) n 0 (k + 1) (by omega)
  refine ⟨n + 4, _, ups (v % 12) true U, H3, fun k => ?_, ⟨hB.sets ch3 po us h.pf h.pm h.p3 h.uf h.um h.u3, ?_, fun j hj => ?_, ?_, h.pl, h.ul, h.pf, h.pm, h.uf, h.um, h.pu, h.p3, h.u3, ?_, ?_, fun x hx0 hx6 => ?_, fun e he => ?_, by simp; omega⟩, by omega⟩
  · rw [show k + (n + 4) = (k + 1 + n + 1) + 1 + 1 by omega, c3_100007, decide_eq_true (show ((i : Nat) : Int) < ((l : Nat) : Int) by omega), decide_eq_true (show ((i : Nat) : Int) < 30 by omega)]
    simp only [↓onS, ↓kInt_int, ↓kInt_u8, ↓kBool_bool, ↓kStr_str, ↓kTup_tup, ↓kPtr_ptr, ↓kSl_sl, ↓kAgg_agg, ↓kMp_mp]
    rw [if_pos ⟨by omega, by omega⟩]
    simp only [Int.toNat_natCast, add_block, add_off, ↓ldc_at hat, hget, ↓onS, ↓kInt_int, ↓kInt_u8, ↓kBool_bool, ↓kStr_str, ↓kTup_tup, ↓kPtr_ptr, ↓kSl_sl, ↓kAgg_agg, ↓kMp_mp, ↓on_of (among18 v (n := 12) (by decide) (by decide) H)]
    rw [decide_eq_true h6]
    simp only [ew, ↓on_of e19, ↓onS, ↓kInt_int, ↓kInt_u8, ↓kBool_bool, ↓kStr_str, ↓kTup_tup, ↓kPtr_ptr, ↓kSl_sl, ↓kAgg_agg, ↓kMp_mp, List.getElem?_toArray, List.getElem?_cons_zero, List.getElem?_cons_succ]
    rw [show (((1 : Nat) : Int) != 1) = false from rfl]
    simp only [↓onS, ↓kInt_int, ↓kInt_u8, ↓kBool_bool, ↓kStr_str, ↓kTup_tup, ↓kPtr_ptr, ↓kSl_sl, ↓kAgg_agg, ↓kMp_mp]
    have q1 : (DC (i : Int) 0 n 0 (⟨#[]⟩ : ByteArray))[0 + 0 + 1]? = some (.int .i64 0) := rfl
    have z1 : 0 ≤ (0 : Int) ∧ (0 : Int) < ((1 : Nat) : Int) := ⟨by omega, by omega⟩
    rw [if_pos z1]
    have b1 : (!(((0 : Int) == 0) == (!false))) = false := rfl
    have b2 : ((0 : Int) != 0) = false := rfl
    simp only [show ((0 : Int).toNat * 5) = 0 from rfl, ↓ldc_at hr, q1, ↓onS, ↓kInt_int, ↓kInt_u8, ↓kBool_bool, ↓kStr_str, ↓kTup_tup, ↓kPtr_ptr, ↓kSl_sl, ↓kAgg_agg, ↓kMp_mp, hus, hb29, b1, b2, z1, if_true, and_self, bne_self_eq_false, c3_14]
    rw [show (0 : Int) = ((0 : Nat) : Int) from rfl, hw k, c3_8, ei, hH3]
  · obtain ⟨a1, cc1, now1, hb1, _⟩ := hB.box
    have hbk : H3[b]? = H2[b]? := ch3.kept b (lt_of_at hb1) (by rintro (q | q); exact ne_at hb1 po (by simp) q; exact ne_at hb1 us (by simp) q)
    exact ⟨lo1.1, lo1.2.1, lo1.2.2.1, fun cs e o a l c h1 h2 => lo1.2.2.2 cs e o a l c (by rw [← hbk]; exact h1) h2⟩
  · have e1 := h.ll
    have e2 := fr.len
    have e3 := h.pl
    have e4 := h.ul
    exact (ch3.kept j (by omega) (by rintro (q | q) <;> omega)).trans ((lo2 j hj).trans (h.kept j hj))
  · have := ch3.len; have := fr.len; have := h.ll; omega
  · rw [hH3]; exact at_set (at_set_self pbl _) h.pu.symm
  · rw [hH3]; exact at_set_self (by simp; exact ubl) _
  · by_cases hx : x = v % 12
    · rw [hx, fi_ups]
      have : (fi En.port (100 + v % 12) (E ++ [⟨n, L', 100 + v % 12⟩])).isSome = true := by
        cases hq : fi En.port (100 + v % 12) (E ++ [⟨n, L', 100 + v % 12⟩]) with
        | none => exact (((fi_none _).1 hq) ⟨n, L', 100 + v % 12⟩ (by simp) rfl).elim
        | some z => rfl
      rw [this]; rfl
    · rw [fi_ups_ne true hx, h.uok x hx0 hx6]
      unfold fi
      rw [List.find?_append]
      have : ([(⟨n, L', 100 + v % 12⟩ : En)].find? fun e => decide (100 + x = En.port e)) = none := by
        simp only [List.find?_cons]
        rw [decide_eq_false (show ¬ 100 + x = 100 + v % 12 by omega)]
        rfl
      rw [this, Option.or_none]
  · rcases List.mem_append.1 he with he | he
    · exact h.eok e he
    · have : e = ⟨n, L', 100 + v % 12⟩ := by simpa using he
      rw [this]
      exact ⟨by show 100 ≤ 100 + v % 12; omega, by show 100 + v % 12 < 106; omega, by show (0 : Int) ≤ (n : Int); omega, by show (n : Int) < 64; omega⟩
end
end Go.Proofs.YtlpeldimmaajkaaGreat
