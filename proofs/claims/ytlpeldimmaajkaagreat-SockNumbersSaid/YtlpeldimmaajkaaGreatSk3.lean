/- r3: sockets that listen: ports; a request that waited is taken out. -/
import Derived.Test.YtlpeldimmaajkaaGreatSk2
set_option linter.unusedVariables false
set_option linter.unusedSimpArgs false
namespace Go.Proofs.YtlpeldimmaajkaaGreat
open Go Go.RowKit Go.Lib Go.Proofs.YtlpeldimmaajkaaGreat.Fw
section
variable {H : Heap} {t m m2 m3 : Nat} {last : Int} {E : List En}
theorem tb13 : (TB m m2 m3 last)[13]? = some (.map (some m)) := rfl
theorem tb15 : (TB m m2 m3 last)[15]? = some (.map (some m3)) := rfl
theorem port68 {p : Int} (h1 : 1 ≤ p) (h2 : p ≤ 65535) (H : Heap) : F68 [.int .i64 p] H = some (.bool true, H) := by
  refine FN_of 1 ((t68 1 p H).trans ?_) (Nat.le_of_ble_eq_true (by kernel_rfl))
  rw [decide_eq_true h1, decide_eq_true h2]
theorem listen63_used (ht : H[t]? = some (.cells (TB m m2 m3 last) 0 true)) (hm : H[m]? = some (.map (mp En.port liV E))) {p : Int} (h1 : 1 ≤ p) (h2 : p ≤ 65535) (hu : (fi En.port p E).isSome = true) : F63 [.pointer (some ⟨t, 0, none⟩), .int .i64 p] H = some (.int .i64 190, H) := by
  refine FN_of 1 ((t63 1 (some ⟨t, 0, none⟩) p H).trans ?_) (Nat.le_of_ble_eq_true (by kernel_rfl))
  have hl := fun (K : Value → R) => look34 (κ := En.port) (ν := fun _ => true) (l := E) hm p K
  simp only [↓on_of (port68 h1 h2 H), ↓onS, ↓kInt_int, ↓kInt_u8, ↓kBool_bool, ↓kStr_str, ↓kTup_tup, ↓kPtr_ptr, ↓kSl_sl, ↓kAgg_agg, ↓kMp_mp, Bool.not_true, ↓ldc_at ht, Nat.zero_add, tb13, hl]
  cases hq : fi En.port p E with
  | none => rw [hq] at hu; cases hu
  | some e => rfl
theorem listen63_new (ht : H[t]? = some (.cells (TB m m2 m3 last) 0 true)) (hm : H[m]? = some (.map (mp En.port liV E))) {p : Int} (h1 : 1 ≤ p) (h2 : p ≤ 65535) (hu : fi En.port p E = none) (e : En) (he : e.port = p) : F63 [.pointer (some ⟨t, 0, none⟩), .int .i64 p] H = some (.int .i64 0, H.set m (.map (mp En.port liV (E ++ [e])))) := by
  refine FN_of 1 ((t63 1 (some ⟨t, 0, none⟩) p H).trans ?_) (Nat.le_of_ble_eq_true (by kernel_rfl))
  have hl := fun (K : Value → R) => look34 (κ := En.port) (ν := fun _ => true) (l := E) hm p K
  simp only [↓on_of (port68 h1 h2 H), ↓onS, ↓kInt_int, ↓kInt_u8, ↓kBool_bool, ↓kStr_str, ↓kTup_tup, ↓kPtr_ptr, ↓kSl_sl, ↓kAgg_agg, ↓kMp_mp, Bool.not_true, ↓ldc_at ht, Nat.zero_add, tb13, hl, hu, Option.map_none, Option.getD_none, mupd, ↓ldm_at hm, keysOk_mp]
  rw [show Value.bool true = liV e from rfl, mset_mp En.port liV hu e he]
theorem sort60 {g b r : Nat} {ez : Nat} {T : Type} {κ : T → Int} {ν : T → Value} {l : List T} (hg : (g = 116 ∧ ez = tz 0 151) ∨ (g = 115 ∧ ez = tz 0 133)) (hb : H[b]? = some (.cells [.map (some r)] ez true)) (hr : H[r]? = some (.map (mp κ ν l))) (hn : (l.map κ).Nodup) (hk : ∀ e ∈ l, -9223372036854775808 ≤ κ e ∧ κ e ≤ 9223372036854775807) (hlen : l.length ≤ 1000) :
    ∃ a c g', F60 [.func (.func g) #[] #[.pointer (some ⟨b, 0, none⟩)]] H = some (.slice a l.length c, H ++ g') ∧ (l = [] → a = none ∧ g' = []) := by
  have hks : keyIs (mp κ ν l) = some (l.map κ) := by
    unfold keyIs
    have : (mp κ ν l).map (·.1) = (l.map κ).map (Value.int .i64) := by simp [mp]
    rw [this, intsOf_map]
  have hF : F60 [.func (.func g) #[] #[.pointer (some ⟨b, 0, none⟩)]] H = (match l.map κ with
      | [] => some (.slice none 0 0, H)
      | _ :: _ => some (.slice (some ⟨H.length, 0, none⟩) (l.map κ).length unk, H ++ [.cells (((l.map κ).mergeSort leN).map (Value.int .i64)) 1 true])) := by
    simp only [F60, hb]
    rw [if_pos ⟨hg, trivial⟩, ldm_at hr]
    simp only [hks, ↓onS]
    rw [if_pos ⟨hn, fun k hk' => by obtain ⟨e, h1, h2⟩ := List.mem_map.1 hk'; rw [← h2]; exact hk e h1, by simp; omega⟩]
    rfl
  cases l with
  | nil => exact ⟨none, 0, [], by rw [hF, List.append_nil]; rfl, fun _ => ⟨rfl, rfl⟩⟩
  | cons e r => exact ⟨some ⟨H.length, 0, none⟩, unk, _, by rw [hF]; simp; rfl, fun q => by cases q⟩
theorem numbers25 (ht : H[t]? = some (.cells (TB m m2 m3 last) 0 true)) (h3 : H[m3]? = some (.map [])) : F25 [.pointer (some ⟨t, 0, none⟩)] H = some (.slice none 0 0, H ++ [.cells [.map (some m3)] 159383552 true]) := by
  obtain ⟨H1, hH1⟩ : ∃ X, X = H ++ [.cells [.map (some m3)] 159383552 true] := ⟨_, rfl⟩
  have b1 : H1[H.length]? = some (.cells [.map (some m3)] 159383552 true) := by rw [hH1]; simp
  have h31 : H1[m3]? = some (.map []) := by rw [hH1]; exact at_push h3 _
  have e64 : F64 [.map (some m3)] H = some (.func (.func 116) #[] #[.pointer (some ⟨H.length, 0, none⟩)], H1) := by
    rw [hH1]; exact FN_of 1 (t64 1 (some m3) H) (Nat.le_of_ble_eq_true (by kernel_rfl))
  obtain ⟨a, c, g', e60, hz⟩ := sort60 (H := H1) (g := 116) (b := H.length) (r := m3) (ez := 159383552) (T := En) (κ := En.fd) (ν := fdV) (l := []) (.inl ⟨rfl, by decide⟩) b1 h31 (by simp) (by simp) (by simp)
  obtain ⟨rfl, rfl⟩ := hz rfl
  have e60' : F60 [.func (.func 116) #[] #[.pointer (some ⟨H.length, 0, none⟩)]] H1 = some (.slice none 0 0, H1) := by
    have h0 : F60 [.func (.func 116) #[] #[.pointer (some ⟨H.length, 0, none⟩)]] H1 = some (.slice none 0 c, H1) := by rw [e60, List.append_nil]; rfl
    simp only [F60, b1] at h0 ⊢
    rw [if_pos ⟨.inl ⟨trivial, by decide⟩, trivial⟩, ldm_at h31] at h0 ⊢
    rfl
  refine FN_of 1 ((t25 1 (some ⟨t, 0, none⟩) H).trans ?_) (Nat.le_of_ble_eq_true (by kernel_rfl))
  simp only [↓onS, ↓kInt_int, ↓kInt_u8, ↓kBool_bool, ↓kStr_str, ↓kTup_tup, ↓kPtr_ptr, ↓kSl_sl, ↓kAgg_agg, ↓kMp_mp, ↓ldc_at ht, Nat.zero_add, tb15, ↓on_of e64, ↓on_of e60', ← hH1]
theorem silence31 (ht : H[t]? = some (.cells (TB m m2 m3 last) 0 true)) (hm : H[m]? = some (.map (mp En.port liV E))) (h3 : H[m3]? = some (.map [])) (hm3 : m ≠ m3) (hnd : (E.map En.port).Nodup) {p : Int} (hu : (fi En.port p E).isSome = true) :
    F31 [.pointer (some ⟨t, 0, none⟩), .int .i64 p] H = some (.int .i64 0, H.set m (.map (mp En.port liV (E.filter fun e => decide (¬ p = En.port e)))) ++ [.cells [.map (some m3)] 159383552 true]) := by
  obtain ⟨H12, hH12⟩ : ∃ X, X = H.set m (.map (mp En.port liV (E.filter fun e => decide (¬ p = En.port e)))) := ⟨_, rfl⟩
  have ht2 : H12[t]? = some (.cells (TB m m2 m3 last) 0 true) := by rw [hH12]; exact at_set ht (ne_at hm ht (by simp))
  have h32 : H12[m3]? = some (.map []) := by rw [hH12]; exact at_set h3 hm3
  refine FN_of (0 + 1) ((t31 (0 + 1) (some ⟨t, 0, none⟩) p H).trans ?_) (Nat.le_of_ble_eq_true (by kernel_rfl))
  have hl := fun (K : Value → R) => look34 (κ := En.port) (ν := fun _ => true) (l := E) hm p K
  have hd : ∀ K : Heap → R, dele H (some m) (.int .i64 p) K = K H12 := fun K => by
    simp only [dele, ↓ldm_at hm, keysOk_mp, mdel_mp En.port liV hnd, hH12]
  have hs : ((fi En.port p E).map fun _ => true).getD false = true := by
    cases hq : fi En.port p E with
    | none => rw [hq] at hu; cases hu
    | some e => rfl
  simp only [↓onS, ↓kInt_int, ↓kInt_u8, ↓kBool_bool, ↓kStr_str, ↓kTup_tup, ↓kPtr_ptr, ↓kSl_sl, ↓kAgg_agg, ↓kMp_mp, ↓ldc_at ht, Nat.zero_add, tb13, hl, hs, Bool.not_true, hd, ↓on_of (numbers25 ht2 h32), c31_100005, ← hH12]
  rfl
theorem end58 {w : Nat} {cs : List Value} {ez : Nat} {own : Bool} {tag : Int} (hw : H[w]? = some (.cells cs ez own)) (h0 : cs[0]? = some (.int .i64 tag)) (code : Int) : F58 [.pointer (some ⟨w, 0, none⟩), .int .i64 code] H = some (.pointer (some ⟨H.length, 0, none⟩), H ++ [.cells [.int .i64 tag, .int .i64 code, .int .i64 0, .int .i64 0, .string (bs [])] 0 true]) := by
  refine FN_of 1 ((t58 1 (some ⟨w, 0, none⟩) code H).trans ?_) (Nat.le_of_ble_eq_true (by kernel_rfl))
  simp only [↓onS, ↓kInt_int, ↓kInt_u8, ↓kBool_bool, ↓kStr_str, ↓kTup_tup, ↓kPtr_ptr, ↓kSl_sl, ↓kAgg_agg, ↓kMp_mp, ↓ldc_at hw, h0]
  rfl
theorem c137' : Tryz.prog.cellsOf 137 = 1 := by kernel_rfl
theorem b137' : Tryz.prog.bytesOf 137 = 8 := by kernel_rfl
theorem s137 : szOk 1 1 137 = true := by decide
theorem delete155 {j c : Nat} {v : Value} (hj : H[j]? = some (.cells [v] 1 true)) (hc : c = unk ∨ c = unk + 1) :
    F155 [.slice (some ⟨j, 0, none⟩) 1 c, .int .i64 0, .int .i64 1] H = some (.slice (some ⟨j, 0, none⟩) 0 (unk + 1), H.set j (.cells [.pointer none] 1 true)) := by
  have e0 : unk ≤ c := by omega
  have s3 : ∀ K : Value → R, slSl3 H 1 (some ⟨j, 0, none⟩) 1 c 0 1 ((1 : Nat) : Int) K = K (.slice (some ⟨j, 0, none⟩) 1 1) := fun K => by
    simp only [slSl3, esOk, hj]
    rw [show Nat.beq (1 % tyM) 1 = true from rfl]
    simp only []
    rw [if_pos ⟨by omega, by omega, by omega, .inl (by omega)⟩]
    rfl
  have cap0 : slCap 1 c 0 = unk + 1 := by
    unfold slCap
    rw [if_pos e0]
    split <;> omega
  have s1 : ∀ K : Value → R, slSl H 1 (some ⟨j, 0, none⟩) 1 c 0 0 K = K (.slice (some ⟨j, 0, none⟩) 0 (unk + 1)) := fun K => by
    simp only [slSl, esOk, hj]
    rw [show Nat.beq (1 % tyM) 1 = true from rfl]
    simp only []
    rw [if_pos ⟨by omega, by omega, .inl (by omega)⟩, show ((0 : Int).toNat) = 0 from rfl, cap0]
    rfl
  have s2 : ∃ c2, ∀ K : Value → R, slSl H 1 (some ⟨j, 0, none⟩) 1 c 1 ((1 : Nat) : Int) K = K (.slice (some ⟨j, 1, none⟩) 0 c2) := ⟨_, fun K => by
    simp only [slSl, esOk, hj]
    rw [show Nat.beq (1 % tyM) 1 = true from rfl]
    simp only []
    rw [if_pos ⟨by omega, by omega, .inl (by omega)⟩]
    rfl⟩
  obtain ⟨c2, s2⟩ := s2
  have f1 : ∀ K : Nat → List Value → R, firstC H 1 (.slice (some ⟨j, 1, none⟩) 0 c2) K = K 0 [] := fun K => by
    simp only [firstC, ↓ldc_at hj]
    rw [if_pos (by simp)]
    rfl
  have a1 : ∀ K : Value → Heap → R, Fw.app Tryz.prog 137 H (.slice (some ⟨j, 0, none⟩) 0 (unk + 1)) 0 [] K = K (.slice (some ⟨j, 0, none⟩) 0 (unk + 1)) H := fun K => by
    simp only [Fw.app, kSl]
    rw [if_pos ⟨by omega, by omega⟩]
    simp only [hj, c137']
    rw [if_pos ⟨by simp, s137⟩, if_pos (by omega), if_pos ⟨by omega, by omega⟩, if_pos ⟨trivial, by simp⟩]
    congr 1
    exact set_self hj
  have e6 : ∀ m, R155 (m + 1) td155_6 [.slice (some ⟨j, 0, none⟩) 0 (unk + 1), .int .i64 ((1 : Nat) : Int)] H = some (.slice (some ⟨j, 0, none⟩) 0 (unk + 1), H.set j (.cells [.pointer none] 1 true)) := fun m => by
    have s4 : ∃ c4, ∀ K : Value → R, slSl H 1 (some ⟨j, 0, none⟩) 0 (unk + 1) ((0 : Nat) : Int) ((1 : Nat) : Int) K = K (.slice (some ⟨j, 0, none⟩) 1 c4) := ⟨_, fun K => by
      simp only [slSl, esOk, hj]
      rw [show Nat.beq (1 % tyM) 1 = true from rfl]
      simp only []
      rw [if_pos ⟨by omega, by omega, .inr (.inr ⟨by omega, by omega⟩)⟩]
      rfl⟩
    obtain ⟨c4, s4⟩ := s4
    rw [c155_6, s4]
    simp only [↓onS, ↓kInt_int, ↓kInt_u8, ↓kBool_bool, ↓kStr_str, ↓kTup_tup, ↓kPtr_ptr, ↓kSl_sl, ↓kAgg_agg, ↓kMp_mp, clr, hj]
    rw [if_pos (by simp)]
    rfl
  refine FN_of (0 + 1) ((t155 (0 + 1) (some ⟨j, 0, none⟩) 1 c 0 1 H).trans ?_) (Nat.le_of_ble_eq_true (by kernel_rfl))
  simp only [s3, ↓onS, ↓kInt_int, ↓kInt_u8, ↓kBool_bool, ↓kStr_str, ↓kTup_tup, ↓kPtr_ptr, ↓kSl_sl, ↓kAgg_agg, ↓kMp_mp, show ((0 : Int) == 1) = false from rfl, s1, Option.map_some, s2, f1, a1, e6]
end
end Go.Proofs.YtlpeldimmaajkaaGreat
