/- r3: SockNumbers: an act that closes. -/
import Derived.Test.YtlpeldimmaajkaaGreatSkD
set_option linter.unusedVariables false
set_option linter.unusedSimpArgs false
namespace Go.Proofs.YtlpeldimmaajkaaGreat
open Go Go.RowKit Go.Lib Go.Proofs.YtlpeldimmaajkaaGreat.Fw
section
variable {b t f m m2 m3 pb ub L i : Nat} {E : List En} {U : List (Int × Bool)} {H0 H : Heap}
theorem act_none (h : Li b t f m m2 m3 pb ub L E U i H0 H) (hi : i < 30) {l c2 : Nat} (hil : i < l) {ad : Addr} {cs : List Value} {own : Bool} {v : Int} (hat : H[ad.block]? = some (.cells cs 1 own)) (hget : cs[ad.off + i * 1]? = some (.int .i64 v)) (h6 : ¬ v % 12 < 6) (hu : fi En.fd (v % 12 - 6) E = none) :
    ∃ q H', (∀ k, R3 (k + q) td3_100007 [.slice (some ad) l c2, .pointer (some ⟨b, 0, none⟩), .map (some pb), .map (some ub), .int .i64 ((i : Nat) : Int)] H = R3 k td3_100007 [.slice (some ad) l c2, .pointer (some ⟨b, 0, none⟩), .map (some pb), .map (some ub), .int .i64 ((i + 1 : Nat) : Int)] H') ∧ Li b t f m m2 m3 pb ub L E U (i + 1) H0 H' ∧ q ≤ 40 := by
  have h0 : 0 ≤ v % 12 := Int.emod_nonneg v (by decide)
  have h12 : v % 12 < 12 := Int.emod_lt_of_pos v (by decide)
  have hlen := h.len
  have ew : IntKind.i64.wrap (v % 12 - 6) = v % 12 - 6 := wrap_in ⟨by omega, by omega⟩
  have ei : IntKind.i64.wrap (((i : Nat) : Int) + 1) = ((i + 1 : Nat) : Int) := wrap_succ (by omega)
  obtain ⟨E', r, H2, rfl, e19, hr, hB, fr, lr, lo⟩ := ask_none h.bx ((i : Nat) : Int) (v % 12 - 6) ((i : Nat) : Int) hu
  obtain ⟨po, us⟩ := h.maps fr
  obtain ⟨lo1, lo2⟩ := lo L h.lo h.ll
  have hl := fun (K : Value → R) => look33 (κ := En.fd) (ν := En.port) (l := E') po (v % 12 - 6) K
  have hfil : (E'.filter fun e => decide (¬ (v % 12 - 6) = En.fd e)) = E' := List.filter_eq_self.2 fun e he => by simpa using (fi_none _).1 hu e he
  have hd : ∀ K : Heap → R, dele H2 (some pb) (.int .i64 (v % 12 - 6)) K = K H2 := fun K => by
    simp only [dele, ↓ldm_at po, keysOk_mp, mdel_mp En.fd poV hB.ndf, hfil, set_self po]
  refine ⟨4, H2, fun k => ?_, ⟨hB, lo1, fun j hj => (lo2 j hj).trans (h.kept j hj), Nat.le_trans h.ll fr.len, h.pl, h.ul, h.pf, h.pm, h.uf, h.um, h.pu, h.p3, h.u3, po, us, h.uok, h.eok, by omega⟩, by omega⟩
  rw [show k + 4 = k + 1 + 1 + 1 + 1 by omega, c3_100007, decide_eq_true (show ((i : Nat) : Int) < ((l : Nat) : Int) by omega), decide_eq_true (show ((i : Nat) : Int) < 30 by omega)]
  simp only [↓onS, ↓kInt_int, ↓kInt_u8, ↓kBool_bool, ↓kStr_str, ↓kTup_tup, ↓kPtr_ptr, ↓kSl_sl, ↓kAgg_agg, ↓kMp_mp]
  rw [if_pos ⟨by omega, by omega⟩]
  simp only [Int.toNat_natCast, add_block, add_off, ↓ldc_at hat, hget, ↓onS, ↓kInt_int, ↓kInt_u8, ↓kBool_bool, ↓kStr_str, ↓kTup_tup, ↓kPtr_ptr, ↓kSl_sl, ↓kAgg_agg, ↓kMp_mp, ↓on_of (among18 v (n := 12) (by decide) (by decide) H)]
  rw [decide_eq_false h6]
  simp only [ew, ↓on_of e19, ↓onS, ↓kInt_int, ↓kInt_u8, ↓kBool_bool, ↓kStr_str, ↓kTup_tup, ↓kPtr_ptr, ↓kSl_sl, ↓kAgg_agg, ↓kMp_mp, List.getElem?_toArray, List.getElem?_cons_zero, List.getElem?_cons_succ]
  rw [show (((1 : Nat) : Int) != 1) = false from rfl]
  simp only [↓onS, ↓kInt_int, ↓kInt_u8, ↓kBool_bool, ↓kStr_str, ↓kTup_tup, ↓kPtr_ptr, ↓kSl_sl, ↓kAgg_agg, ↓kMp_mp]
  have q1 : (DC (i : Int) 5 0 0 (⟨#[]⟩ : ByteArray))[0 + 0 + 1]? = some (.int .i64 5) := rfl
  have z1 : 0 ≤ (0 : Int) ∧ (0 : Int) < ((1 : Nat) : Int) := ⟨by omega, by omega⟩
  rw [if_pos z1]
  have b1 : (!(((5 : Int) == 0) == ((0 : Int) != 0))) = false := rfl
  have b2 : ((5 : Int) != 0) = true := rfl
  have b3 : (!(((5 : Int) == 0) == false)) = false := rfl
  simp only [show ((0 : Int).toNat * 5) = 0 from rfl, ↓ldc_at hr, q1, ↓onS, ↓kInt_int, ↓kInt_u8, ↓kBool_bool, ↓kStr_str, ↓kTup_tup, ↓kPtr_ptr, ↓kSl_sl, ↓kAgg_agg, ↓kMp_mp, hl, hu, Option.map_none, Option.getD_none, b1, b2, b3, z1, if_true, and_self, bne_self_eq_false, c3_25, c3_27, hd, c3_8, ei]
end
end Go.Proofs.YtlpeldimmaajkaaGreat
