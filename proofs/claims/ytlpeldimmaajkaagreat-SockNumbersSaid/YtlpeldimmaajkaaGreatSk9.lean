/- r3: sockets: the chapter's example. -/
import Derived.Test.YtlpeldimmaajkaaGreatSk8
set_option linter.unusedVariables false
set_option linter.unusedSimpArgs false
namespace Go.Proofs.YtlpeldimmaajkaaGreat
open Go Go.RowKit Go.Lib Go.Proofs.YtlpeldimmaajkaaGreat.Fw
theorem c3' : Tryz.prog.cellsOf 3 = 1 := by kernel_rfl
theorem b3' : Tryz.prog.bytesOf 3 = 8 := by kernel_rfl
theorem e3' : tyE Tryz.prog 3 = 1 := by kernel_rfl
theorem eq43 (K : Bool → R) : eqv Tryz.prog 20 43 (.agg (DC 5 0 0 0 (⟨#[]⟩ : ByteArray)).toArray) (.agg #[.int .i64 (5 : Int), .int .i64 (0 : Int), .int .i64 (0 : Int), .int .i64 (0 : Int), .string (⟨#[]⟩ : ByteArray)]) K = K true := by kernel_rfl
section
variable {H : Heap} {b t f m m2 m3 W j c : Nat} {E : List En} {ws ov nv tv fv : Value} {tag : Int}
/-- A request to accept waits. -/
theorem turn_wait (hb : H[b]? = some (.cells [.pointer (some ⟨t, 0, none⟩), .map (some f), ws, ov, nv] 0 true)) (hPt : Pt t f m m2 m3 E H) (hW : H[W]? = some (.cells (RQ tag 2 0 0) 0 true)) {e : En} (hu : fi En.fd 0 E = some e) {n : Nat} (hn : Least E n) (h64 : n < 64) :
    ∃ H', F154 [.pointer (some ⟨b, 0, none⟩), .pointer (some ⟨W, 0, none⟩)] H = some (.pointer none, H') ∧ Ch (fun _ => False) H H' := by
  obtain ⟨heE, _⟩ := fi_some _ hu
  have he := hPt.prt e heE
  obtain ⟨H1, hH1⟩ : ∃ X, X = H ++ [.cells [.map (some m3)] 159383552 true] := ⟨_, rfl⟩
  have e25 : F25 [.pointer (some ⟨t, 0, none⟩)] H = some (.slice none 0 0, H1) := by rw [hH1]; exact numbers25 hPt.tab hPt.alm
  have e55 : F55 [.pointer (some ⟨t, 0, none⟩), .int .i64 e.port] H = some (.tuple #[.int .i64 0, .bool false], H1) := by
    refine FN_of (0 + 1) ((t55 (0 + 1) (some ⟨t, 0, none⟩) e.port H).trans ?_) (Nat.le_of_ble_eq_true (by kernel_rfl))
    simp only [↓on_of e25, ↓onS, ↓kInt_int, ↓kInt_u8, ↓kBool_bool, ↓kStr_str, ↓kTup_tup, ↓kPtr_ptr, ↓kSl_sl, ↓kAgg_agg, ↓kMp_mp]
    rw [c55_100002]; rfl
  have e211 : F211 [.pointer (some ⟨b, 0, none⟩), .pointer (some ⟨W, 0, none⟩), .pointer (some ⟨e.blk, 0, none⟩)] H = some (.pointer none, H1) := by
    refine FN_of 1 ((t211 1 (some ⟨b, 0, none⟩) (some ⟨W, 0, none⟩) (some ⟨e.blk, 0, none⟩) H).trans ?_) (Nat.le_of_ble_eq_true (by kernel_rfl))
    simp only [↓on_of (free207 hb rfl hPt.fds hn h64), ↓onS, ↓kInt_int, ↓kInt_u8, ↓kBool_bool, ↓kStr_str, ↓kTup_tup, ↓kPtr_ptr, ↓kSl_sl, ↓kAgg_agg, ↓kMp_mp, List.getElem?_toArray, List.getElem?_cons_zero, List.getElem?_cons_succ, Bool.not_true, ↓ldc_at hb, ↓ldc_at he, ↓on_of e55, Bool.not_false]
  have e183 : F183 [.pointer (some ⟨b, 0, none⟩), .pointer (some ⟨W, 0, none⟩), .pointer (some ⟨e.blk, 0, none⟩)] H = some (.pointer none, H1) := by
    refine FN_of 1 ((t183 1 (some ⟨b, 0, none⟩) (some ⟨W, 0, none⟩) (some ⟨e.blk, 0, none⟩) H).trans ?_) (Nat.le_of_ble_eq_true (by kernel_rfl))
    simp only [↓onS, ↓kInt_int, ↓kInt_u8, ↓kBool_bool, ↓kStr_str, ↓kTup_tup, ↓kPtr_ptr, ↓kSl_sl, ↓kAgg_agg, ↓kMp_mp, ↓ldc_at hW, Nat.zero_add]
    rw [show (RQ tag 2 0 0)[1]? = some (.int .i64 2) from rfl]
    simp only [↓onS, ↓kInt_int, ↓kInt_u8, ↓kBool_bool, ↓kStr_str, ↓kTup_tup, ↓kPtr_ptr, ↓kSl_sl, ↓kAgg_agg, ↓kMp_mp, beq_self_eq_true, ↓on_of e211]
  refine ⟨H1, FN_of (0 + 1) ((t154 (0 + 1) (some ⟨b, 0, none⟩) (some ⟨W, 0, none⟩) H).trans ?_) (Nat.le_of_ble_eq_true (by kernel_rfl)), by rw [hH1]; exact Ch.push _ _ _⟩
  simp only [↓onS, ↓kInt_int, ↓kInt_u8, ↓kBool_bool, ↓kStr_str, ↓kTup_tup, ↓kPtr_ptr, ↓kSl_sl, ↓kAgg_agg, ↓kMp_mp, ↓ldc_at hW, Nat.zero_add]
  rw [show (RQ tag 2 0 0)[1]? = some (.int .i64 2) from rfl]
  simp only [↓onS, ↓kInt_int, ↓kInt_u8, ↓kBool_bool, ↓kStr_str, ↓kTup_tup, ↓kPtr_ptr, ↓kSl_sl, ↓kAgg_agg, ↓kMp_mp, show ((2 : Int) == 1) = false from rfl, show ((2 : Int) == 3) = false from rfl, ↓ldc_at hb, Nat.zero_add, List.getElem?_toArray, List.getElem?_cons_zero, List.getElem?_cons_succ]
  rw [show (RQ tag 2 0 0)[2]? = some (.int .i64 0) from rfl]
  simp only [↓onS, ↓kInt_int, ↓kInt_u8, ↓kBool_bool, ↓kStr_str, ↓kTup_tup, ↓kPtr_ptr, ↓kSl_sl, ↓kAgg_agg, ↓kMp_mp, ↓look133 hPt.fds, hu, Option.map_some, Option.getD_some, fdV]
  rw [show (1 : Nat) = 0 + 1 from rfl, c154_7]
  simp only [as279, ↓onS, ↓kInt_int, ↓kInt_u8, ↓kBool_bool, ↓kStr_str, ↓kTup_tup, ↓kPtr_ptr, ↓kSl_sl, ↓kAgg_agg, ↓kMp_mp, List.getElem?_toArray, List.getElem?_cons_zero, List.getElem?_cons_succ, ↓on_of e183]
theorem told_wait (hb : H[b]? = some (.cells [tv, fv, .slice (some ⟨j, 0, none⟩) 1 c, .slice none 0 0, nv] 0 true)) (hj : H[j]? = some (.cells [.pointer (some ⟨W, 0, none⟩)] 1 true)) {H1 : Heap}
    (turn : F154 [.pointer (some ⟨b, 0, none⟩), .pointer (some ⟨W, 0, none⟩)] H = some (.pointer none, H1)) (ch : Ch (fun _ => False) H H1) : F59 [.pointer (some ⟨b, 0, none⟩)] H = some (.tuple #[.slice none 0 0, .slice none 0 0], H1) := by
  have hb1 := ch.at_ hb id
  have w1 : IntKind.i64.wrap ((0 : Int) + 1) = 1 := by decide
  have e112 : F112 [.pointer (some ⟨b, 0, none⟩)] H = some (.slice none 0 0, H1) := by
    refine FN_of (0 + 1 + 1 + 1) ((t112 (0 + 1 + 1 + 1) (some ⟨b, 0, none⟩) H).trans ?_) (Nat.le_of_ble_eq_true (by kernel_rfl))
    rw [c112_100002]
    simp only [↓onS, ↓kInt_int, ↓kInt_u8, ↓kBool_bool, ↓kStr_str, ↓kTup_tup, ↓kPtr_ptr, ↓kSl_sl, ↓kAgg_agg, ↓kMp_mp, ↓ldc_at hb, Nat.zero_add, List.getElem?_toArray, List.getElem?_cons_zero, List.getElem?_cons_succ]
    rw [show decide ((0 : Int) < ((1 : Nat) : Int)) = true from rfl]
    simp only []
    rw [if_pos ⟨by omega, by omega⟩, show ((0 : Int).toNat * 1) = 0 from rfl, add0]
    simp only [↓ldc_at hj, List.getElem?_toArray, List.getElem?_cons_zero, List.getElem?_cons_succ, ↓onS, ↓kInt_int, ↓kInt_u8, ↓kBool_bool, ↓kStr_str, ↓kTup_tup, ↓kPtr_ptr, ↓kSl_sl, ↓kAgg_agg, ↓kMp_mp, ↓on_of turn, Option.isNone_none]
    rw [show (2 : Nat) = 0 + 1 + 1 from rfl, c112_3, w1, c112_100002]
    simp only [↓onS, ↓kInt_int, ↓kInt_u8, ↓kBool_bool, ↓kStr_str, ↓kTup_tup, ↓kPtr_ptr, ↓kSl_sl, ↓kAgg_agg, ↓kMp_mp, ↓ldc_at hb1, Nat.zero_add, List.getElem?_toArray, List.getElem?_cons_zero, List.getElem?_cons_succ]
    rfl
  refine FN_of 1 ((t59 1 (some ⟨b, 0, none⟩) H).trans ?_) (Nat.le_of_ble_eq_true (by kernel_rfl))
  simp only [↓on_of e112, ↓onS, ↓kInt_int, ↓kInt_u8, ↓kBool_bool, ↓kStr_str, ↓kTup_tup, ↓kPtr_ptr, ↓kSl_sl, ↓kAgg_agg, ↓kMp_mp, ↓ldc_at hb1, Nat.zero_add, List.getElem?_toArray, List.getElem?_cons_zero, List.getElem?_cons_succ]
  rw [st_one (a := ⟨b, 3, none⟩) hb1 (by simp) rfl]
  have : H1.set b (.cells ([tv, fv, .slice (some ⟨j, 0, none⟩) 1 c, .slice none 0 0, nv].set 3 (.slice none 0 0)) 0 true) = H1 := set_self hb1
  simp only [this]
end
end Go.Proofs.YtlpeldimmaajkaaGreat
