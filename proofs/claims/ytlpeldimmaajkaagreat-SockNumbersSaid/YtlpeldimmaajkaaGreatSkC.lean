/- r3: SockNumbers: the least number is looked for, and noted. -/
import Derived.Test.YtlpeldimmaajkaaGreatSkB
set_option linter.unusedVariables false
set_option linter.unusedSimpArgs false
namespace Go.Proofs.YtlpeldimmaajkaaGreat
open Go Go.RowKit Go.Lib Go.Proofs.YtlpeldimmaajkaaGreat.Fw
section
variable {b pb ub r : Nat} {E : List En} {U : List (Int × Bool)} {H : Heap}
theorem want16 (po : H[pb]? = some (.map (mp En.fd poV E))) (us : H[ub]? = some (.map (mp Prod.fst usV U))) (hpu : pb ≠ ub) {tag : Int} {k : Nat} {s : ByteArray} (hr : H[r]? = some (.cells (DC tag 0 k 0 s) 5 true)) (hn : Least E k) (h64 : k < 64) (hE : ∀ e ∈ E, 100 ≤ e.port) {x : Int} (h0 : 0 ≤ x) (h6 : x < 6) (e : En) (he : e.fd = k) (hp : e.port = 100 + x)
    (a0 : Option Addr) (l1 c2 : Nat) (x6 : Int) : ∀ (q i m : Nat), i + q = k → R3 (m + q + 1) td3_100016 [.slice a0 l1 c2, .pointer (some ⟨b, 0, none⟩), .map (some pb), .map (some ub), .int .i64 x6, .int .i64 x, .slice (some ⟨r, 0, none⟩) 1 unk, .int .i64 ((i : Nat) : Int)] H =
      R3 m td3_8 [.slice a0 l1 c2, .pointer (some ⟨b, 0, none⟩), .map (some pb), .map (some ub), .int .i64 x6] ((H.set pb (.map (mp En.fd poV (E ++ [e])))).set ub (.map (mp Prod.fst usV (ups x true U)))) := by
  intro q
  have hl := fun (n : Int) (K : Value → R) => look33 (κ := En.fd) (ν := En.port) (l := E) po n K
  induction q with
  | zero =>
    intro i m hi
    have hik : i = k := by omega
    subst hik
    have ew : IntKind.i64.wrap (100 + x) = 100 + x := wrap_in ⟨by omega, by omega⟩
    have us1 : (H.set pb (.map (mp En.fd poV (E ++ [e]))))[ub]? = some (.map (mp Prod.fst usV U)) := at_set us hpu
    rw [c3_100016]
    simp only [hl, hn.1, Option.map_none, Option.getD_none, ↓onS, ↓kInt_int, ↓kInt_u8, ↓kBool_bool, ↓kStr_str, ↓kTup_tup, ↓kPtr_ptr, ↓kSl_sl, ↓kAgg_agg, ↓kMp_mp, bne_self_eq_false]
    rw [if_pos ⟨by omega, by omega⟩, show ((0 : Int).toNat * 5) = 0 from rfl, add0]
    simp only [↓ldc_at hr]
    rw [show (DC tag 0 (i : Int) 0 s)[0 + 2]? = some (.int .i64 (i : Int)) from rfl]
    simp only [↓onS, ↓kInt_int, ↓kInt_u8, ↓kBool_bool, ↓kStr_str, ↓kTup_tup, ↓kPtr_ptr, ↓kSl_sl, ↓kAgg_agg, ↓kMp_mp, bne_self_eq_false, mupd, ↓ldm_at po, keysOk_mp, ew]
    rw [show Value.int .i64 (100 + x) = poV e from by rw [poV, hp], mset_mp En.fd poV hn.1 e he]
    simp only [↓ldm_at us1, keysOk_mp, mset_ups]
  | succ q ih =>
    intro i m hi
    rw [show m + (q + 1) + 1 = (m + q + 1) + 1 by omega, c3_100016]
    have hs := hn.2 i (by omega)
    cases hq : fi En.fd ((i : Nat) : Int) E with
    | none => rw [hq] at hs; cases hs
    | some x0 =>
      have h100 := hE x0 (fi_some _ hq).1
      simp only [hl, hq, Option.map_some, Option.getD_some, ↓onS, ↓kInt_int, ↓kInt_u8, ↓kBool_bool, ↓kStr_str, ↓kTup_tup, ↓kPtr_ptr, ↓kSl_sl, ↓kAgg_agg, ↓kMp_mp]
      rw [show (x0.port != 0) = true by simp; omega]
      simp only [wrap_succ (show i + 1 < 9223372036854775808 by omega)]
      exact ih (i + 1) m (by omega)
end
end Go.Proofs.YtlpeldimmaajkaaGreat
