/- r3: sockets: what a request to listen, or to close, comes to. -/
import Derived.Test.YtlpeldimmaajkaaGreatSk4
set_option linter.unusedVariables false
set_option linter.unusedSimpArgs false
namespace Go.Proofs.YtlpeldimmaajkaaGreat
open Go Go.RowKit Go.Lib Go.Proofs.YtlpeldimmaajkaaGreat.Fw
theorem u279 : Tryz.prog.underlying 279 = some (.pointer 309) := by kernel_rfl
theorem u138 : Tryz.prog.underlying 138 = some (.pointer 314) := by kernel_rfl
theorem z279 : zeroOf Tryz.prog 279 = some (.pointer none) := by kernel_rfl
theorem z138 : zeroOf Tryz.prog 138 = some (.pointer none) := by kernel_rfl
theorem as279 (v : Value) (K : Value → R) : tyAs Tryz.prog 279 true (.iface 279 v) K = K (.tuple #[v, .bool true]) := by
  unfold tyAs; rw [u279]; simp [tyIs, okV]
theorem as279n (K : Value → R) : tyAs Tryz.prog 279 true .nilIface K = K (.tuple #[.pointer none, .bool false]) := by
  unfold tyAs; rw [u279]; simp only [tyIs, z279, ↓onS]; rfl
theorem as138n (K : Value → R) : tyAs Tryz.prog 138 true .nilIface K = K (.tuple #[.pointer none, .bool false]) := by
  unfold tyAs; rw [u138]; simp only [tyIs, z138, ↓onS]; rfl
theorem nd_inj {T : Type} {κ : T → Int} : ∀ {l : List T}, (l.map κ).Nodup → ∀ {x y : T}, x ∈ l → y ∈ l → κ x = κ y → x = y
  | [], _, _, _, h, _, _ => by cases h
  | a :: r, hn, x, y, hx, hy, he => by
    obtain ⟨h1, h2⟩ := List.nodup_cons.1 hn
    rcases List.mem_cons.1 hx with hx1 | hx1
    · rcases List.mem_cons.1 hy with hy1 | hy1
      · rw [hx1, hy1]
      · exact (h1 (List.mem_map.2 ⟨y, hy1, by rw [← he, hx1]⟩)).elim
    · rcases List.mem_cons.1 hy with hy1 | hy1
      · exact (h1 (List.mem_map.2 ⟨x, hx1, by rw [he, hy1]⟩)).elim
      · exact nd_inj h2 hx1 hy1 he
/-- The sockets without one. -/
def rmE (e : En) (E : List En) : List En := E.filter fun x => decide (¬ e.fd = En.fd x)
theorem rm_port {E : List En} (hf : (E.map En.fd).Nodup) (hp : (E.map En.port).Nodup) {e : En} (he : e ∈ E) : (E.filter fun x => decide (¬ e.port = En.port x)) = rmE e E := by
  refine List.filter_congr fun x hx => ?_
  have : e.port = x.port ↔ e.fd = x.fd := ⟨fun q => by rw [nd_inj hp he hx q], fun q => by rw [nd_inj hf he hx q]⟩
  simp [this]
/-- A request in memory. -/
def RQ (tag kind fd p : Int) : List Value := [.int .i64 tag, .int .i64 kind, .int .i64 fd, .int .i64 0, .int .i64 p, .int .i64 0, .string (⟨#[]⟩ : ByteArray), .int .i64 0, .int .i64 0, .pointer none]
section
variable {H : Heap} {b t f m m2 m3 W : Nat} {E : List En} {ws ov nv : Value} {tag fd p : Int}
theorem turn_new (hb : H[b]? = some (.cells [.pointer (some ⟨t, 0, none⟩), .map (some f), ws, ov, nv] 0 true)) (ht : H[t]? = some (.cells (TB m m2 m3 0) 0 true)) (hf : H[f]? = some (.map (mp En.fd fdV E))) (hm : H[m]? = some (.map (mp En.port liV E))) (hfm : f ≠ m)
    (hW : H[W]? = some (.cells (RQ tag 1 fd p) 0 true)) (h1 : 1 ≤ p) (h2 : p ≤ 65535) (hu : fi En.port p E = none) {n : Nat} (hn : Least E n) (h64 : n < 64) :
    ∃ H', F154 [.pointer (some ⟨b, 0, none⟩), .pointer (some ⟨W, 0, none⟩)] H = some (.pointer (some ⟨H.length + 1, 0, none⟩), H') ∧ H'[f]? = some (.map (mp En.fd fdV (E ++ [⟨n, H.length, p⟩]))) ∧ H'[m]? = some (.map (mp En.port liV (E ++ [⟨n, H.length, p⟩]))) ∧
      H'[H.length]? = some (.cells [.int .i64 p] 0 true) ∧ H'[H.length + 1]? = some (.cells (DC tag 0 n 0 (⟨#[]⟩ : ByteArray)) 0 true) ∧ Ch (fun k => k = f ∨ k = m) H H' := by
  have hbf : b ≠ f := ne_at hb hf (by simp)
  have hbm : b ≠ m := ne_at hb hm (by simp)
  have htf : t ≠ f := ne_at ht hf (by simp)
  have hWf : W ≠ f := ne_at hW hf (by simp)
  have hWm : W ≠ m := ne_at hW hm (by simp)
  have hbl := lt_of_at hb
  have hWl := lt_of_at hW
  have hfl := lt_of_at hf
  have hml := lt_of_at hm
  obtain ⟨Hm, hHm⟩ : ∃ X, X = H.set m (.map (mp En.port liV (E ++ [⟨n, H.length, p⟩]))) := ⟨_, rfl⟩
  have lm : Hm.length = H.length := by rw [hHm]; simp
  have e63 : F63 [.pointer (some ⟨t, 0, none⟩), .int .i64 p] H = some (.int .i64 0, Hm) := by rw [hHm]; exact listen63_new ht hm h1 h2 hu _ rfl
  have bm : Hm[b]? = some (.cells [.pointer (some ⟨t, 0, none⟩), .map (some f), ws, ov, nv] 0 true) := by rw [hHm]; exact at_set hb hbm.symm
  have wm : Hm[W]? = some (.cells (RQ tag 1 fd p) 0 true) := by rw [hHm]; exact at_set hW hWm.symm
  have fm : Hm[f]? = some (.map (mp En.fd fdV E)) := by rw [hHm]; exact at_set hf hfm.symm
  obtain ⟨H31, hH31⟩ : ∃ X, X = Hm ++ [.cells [.int .i64 p] 0 true] := ⟨_, rfl⟩
  have l31 : H31.length = H.length + 1 := by rw [hH31]; simp [lm]
  have f31 : H31[f]? = some (.map (mp En.fd fdV E)) := by rw [hH31]; exact at_push fm _
  obtain ⟨H33, hH33⟩ : ∃ X, X = H31.set f (.map (mp En.fd fdV (E ++ [⟨n, H.length, p⟩]))) := ⟨_, rfl⟩
  have l33 : H33.length = H.length + 1 := by rw [hH33]; simp [l31]
  have w33 : H33[W]? = some (.cells (RQ tag 1 fd p) 0 true) := by rw [hH33, hH31]; exact at_set (at_push wm _) hWf.symm
  have up : ∀ K : Heap → R, mupd H31 f (.int .i64 ((n : Nat) : Int)) (.iface 279 (.pointer (some (⟨Hm.length, 0, none⟩ : Addr)))) K = K H33 := fun K => by
    simp only [mupd, ↓ldm_at f31, keysOk_mp]
    rw [lm, show (Value.iface 279 (.pointer (some (⟨H.length, 0, none⟩ : Addr)))) = fdV ⟨n, H.length, p⟩ from rfl, mset_mp En.fd fdV hn.1 _ rfl, hH33]
  obtain ⟨H38, hH38⟩ : ∃ X, X = H33 ++ [.cells (DC tag 0 n 0 (⟨#[]⟩ : ByteArray)) 0 true] := ⟨_, rfl⟩
  have e181 : F181 [.pointer (some ⟨b, 0, none⟩), .pointer (some ⟨W, 0, none⟩)] H = some (.pointer (some ⟨H.length + 1, 0, none⟩), H38) := by
    refine FN_of 1 ((t181 1 (some ⟨b, 0, none⟩) (some ⟨W, 0, none⟩) H).trans ?_) (Nat.le_of_ble_eq_true (by kernel_rfl))
    simp only [↓on_of (free207 hb rfl hf hn h64), ↓onS, ↓kInt_int, ↓kInt_u8, ↓kBool_bool, ↓kStr_str, ↓kTup_tup, ↓kPtr_ptr, ↓kSl_sl, ↓kAgg_agg, ↓kMp_mp, List.getElem?_toArray, List.getElem?_cons_zero, List.getElem?_cons_succ, Bool.not_true, ↓ldc_at hb, ↓ldc_at hW, Nat.zero_add]
    rw [show (RQ tag 1 fd p)[4]? = some (.int .i64 p) from rfl]
    simp only [↓onS, ↓kInt_int, ↓kInt_u8, ↓kBool_bool, ↓kStr_str, ↓kTup_tup, ↓kPtr_ptr, ↓kSl_sl, ↓kAgg_agg, ↓kMp_mp, ↓on_of e63, bne_self_eq_false, ↓ldc_at bm, List.getElem?_toArray, List.getElem?_cons_zero, List.getElem?_cons_succ, Nat.zero_add, ↓ldc_at wm]
    rw [show (RQ tag 1 fd p)[4]? = some (.int .i64 p) from rfl]
    simp only [↓onS, ↓kInt_int, ↓kInt_u8, ↓kBool_bool, ↓kStr_str, ↓kTup_tup, ↓kPtr_ptr, ↓kSl_sl, ↓kAgg_agg, ↓kMp_mp, ← hH31, up, ↓ldc_at w33]
    rw [show (RQ tag 1 fd p)[0]? = some (.int .i64 tag) from rfl]
    simp only [↓onS, ↓kInt_int, ↓kInt_u8, ↓kBool_bool, ↓kStr_str, ↓kTup_tup, ↓kPtr_ptr, ↓kSl_sl, ↓kAgg_agg, ↓kMp_mp]
    rw [hH38, l33]; rfl
  refine ⟨H38, FN_of 1 ((t154 1 (some ⟨b, 0, none⟩) (some ⟨W, 0, none⟩) H).trans ?_) (Nat.le_of_ble_eq_true (by kernel_rfl)), ?_, ?_, ?_, ?_, ⟨by rw [hH38]; simp [l33]; omega, fun k hk hnk => ?_⟩⟩
  · simp only [↓onS, ↓kInt_int, ↓kInt_u8, ↓kBool_bool, ↓kStr_str, ↓kTup_tup, ↓kPtr_ptr, ↓kSl_sl, ↓kAgg_agg, ↓kMp_mp, ↓ldc_at hW, Nat.zero_add]
    rw [show (RQ tag 1 fd p)[1]? = some (.int .i64 1) from rfl]
    simp only [↓onS, ↓kInt_int, ↓kInt_u8, ↓kBool_bool, ↓kStr_str, ↓kTup_tup, ↓kPtr_ptr, ↓kSl_sl, ↓kAgg_agg, ↓kMp_mp, beq_self_eq_true, ↓on_of e181]
  · rw [hH38]; exact at_push (by rw [hH33]; exact at_set_self (lt_of_at f31) _) _
  · rw [hH38]; refine at_push ?_ _; rw [hH33]; refine at_set ?_ hfm; rw [hH31]; refine at_push ?_ _; rw [hHm]; exact at_set_self hml _
  · rw [hH38]; refine at_push ?_ _; rw [hH33]; refine at_set ?_ (by omega); rw [hH31, ← lm]; simp
  · rw [hH38, ← l33]; simp
  · rw [hH38, List.getElem?_append_left (by omega), hH33, List.getElem?_set_ne (fun q => hnk (.inl q.symm)), hH31, List.getElem?_append_left (by omega), hHm, List.getElem?_set_ne (fun q => hnk (.inr q.symm))]
theorem turn_used (hb : H[b]? = some (.cells [.pointer (some ⟨t, 0, none⟩), .map (some f), ws, ov, nv] 0 true)) (ht : H[t]? = some (.cells (TB m m2 m3 0) 0 true)) (hf : H[f]? = some (.map (mp En.fd fdV E))) (hm : H[m]? = some (.map (mp En.port liV E)))
    (hW : H[W]? = some (.cells (RQ tag 1 fd p) 0 true)) (h1 : 1 ≤ p) (h2 : p ≤ 65535) (hu : (fi En.port p E).isSome = true) {n : Nat} (hn : Least E n) (h64 : n < 64) :
    F154 [.pointer (some ⟨b, 0, none⟩), .pointer (some ⟨W, 0, none⟩)] H = some (.pointer (some ⟨H.length, 0, none⟩), H ++ [.cells (DC tag 190 0 0 (⟨#[]⟩ : ByteArray)) 0 true]) := by
  have e58 := end58 hW (show (RQ tag 1 fd p)[0]? = some (.int .i64 tag) from rfl) 190
  have e181 : F181 [.pointer (some ⟨b, 0, none⟩), .pointer (some ⟨W, 0, none⟩)] H = some (.pointer (some ⟨H.length, 0, none⟩), H ++ [.cells (DC tag 190 0 0 (⟨#[]⟩ : ByteArray)) 0 true]) := by
    refine FN_of 1 ((t181 1 (some ⟨b, 0, none⟩) (some ⟨W, 0, none⟩) H).trans ?_) (Nat.le_of_ble_eq_true (by kernel_rfl))
    simp only [↓on_of (free207 hb rfl hf hn h64), ↓onS, ↓kInt_int, ↓kInt_u8, ↓kBool_bool, ↓kStr_str, ↓kTup_tup, ↓kPtr_ptr, ↓kSl_sl, ↓kAgg_agg, ↓kMp_mp, List.getElem?_toArray, List.getElem?_cons_zero, List.getElem?_cons_succ, Bool.not_true, ↓ldc_at hb, ↓ldc_at hW, Nat.zero_add]
    rw [show (RQ tag 1 fd p)[4]? = some (.int .i64 p) from rfl]
    simp only [↓onS, ↓kInt_int, ↓kInt_u8, ↓kBool_bool, ↓kStr_str, ↓kTup_tup, ↓kPtr_ptr, ↓kSl_sl, ↓kAgg_agg, ↓kMp_mp, ↓on_of (listen63_used ht hm h1 h2 hu)]
    rw [show ((190 : Int) != 0) = true from rfl]
    simp only [↓on_of e58, ↓onS, ↓kInt_int, ↓kInt_u8, ↓kBool_bool, ↓kStr_str, ↓kTup_tup, ↓kPtr_ptr, ↓kSl_sl, ↓kAgg_agg, ↓kMp_mp]
    rfl
  refine FN_of 1 ((t154 1 (some ⟨b, 0, none⟩) (some ⟨W, 0, none⟩) H).trans ?_) (Nat.le_of_ble_eq_true (by kernel_rfl))
  simp only [↓onS, ↓kInt_int, ↓kInt_u8, ↓kBool_bool, ↓kStr_str, ↓kTup_tup, ↓kPtr_ptr, ↓kSl_sl, ↓kAgg_agg, ↓kMp_mp, ↓ldc_at hW, Nat.zero_add]
  rw [show (RQ tag 1 fd p)[1]? = some (.int .i64 1) from rfl]
  simp only [↓onS, ↓kInt_int, ↓kInt_u8, ↓kBool_bool, ↓kStr_str, ↓kTup_tup, ↓kPtr_ptr, ↓kSl_sl, ↓kAgg_agg, ↓kMp_mp, beq_self_eq_true, ↓on_of e181]
theorem turn_none (hb : H[b]? = some (.cells [.pointer (some ⟨t, 0, none⟩), .map (some f), ws, ov, nv] 0 true)) (hf : H[f]? = some (.map (mp En.fd fdV E))) (hW : H[W]? = some (.cells (RQ tag 7 fd p) 0 true)) (hu : fi En.fd fd E = none) :
    F154 [.pointer (some ⟨b, 0, none⟩), .pointer (some ⟨W, 0, none⟩)] H = some (.pointer (some ⟨H.length, 0, none⟩), H ++ [.cells (DC tag 5 0 0 (⟨#[]⟩ : ByteArray)) 0 true]) := by
  have e58 := end58 hW (show (RQ tag 7 fd p)[0]? = some (.int .i64 tag) from rfl) 5
  refine FN_of (0 + 1) ((t154 (0 + 1) (some ⟨b, 0, none⟩) (some ⟨W, 0, none⟩) H).trans ?_) (Nat.le_of_ble_eq_true (by kernel_rfl))
  simp only [↓onS, ↓kInt_int, ↓kInt_u8, ↓kBool_bool, ↓kStr_str, ↓kTup_tup, ↓kPtr_ptr, ↓kSl_sl, ↓kAgg_agg, ↓kMp_mp, ↓ldc_at hW, Nat.zero_add]
  rw [show (RQ tag 7 fd p)[1]? = some (.int .i64 7) from rfl]
  simp only [↓onS, ↓kInt_int, ↓kInt_u8, ↓kBool_bool, ↓kStr_str, ↓kTup_tup, ↓kPtr_ptr, ↓kSl_sl, ↓kAgg_agg, ↓kMp_mp, show ((7 : Int) == 1) = false from rfl, show ((7 : Int) == 3) = false from rfl, ↓ldc_at hb, Nat.zero_add, List.getElem?_toArray, List.getElem?_cons_zero, List.getElem?_cons_succ]
  rw [show (RQ tag 7 fd p)[2]? = some (.int .i64 fd) from rfl]
  simp only [↓onS, ↓kInt_int, ↓kInt_u8, ↓kBool_bool, ↓kStr_str, ↓kTup_tup, ↓kPtr_ptr, ↓kSl_sl, ↓kAgg_agg, ↓kMp_mp, ↓look133 hf, hu, Option.map_none, Option.getD_none]
  rw [show (1 : Nat) = 0 + 1 from rfl, c154_7]
  simp only [as279n, as138n, ↓onS, ↓kInt_int, ↓kInt_u8, ↓kBool_bool, ↓kStr_str, ↓kTup_tup, ↓kPtr_ptr, ↓kSl_sl, ↓kAgg_agg, ↓kMp_mp, List.getElem?_toArray, List.getElem?_cons_zero, List.getElem?_cons_succ, ↓on_of e58]
  rfl
theorem turn_close (hb : H[b]? = some (.cells [.pointer (some ⟨t, 0, none⟩), .map (some f), ws, ov, nv] 0 true)) (ht : H[t]? = some (.cells (TB m m2 m3 0) 0 true)) (hf : H[f]? = some (.map (mp En.fd fdV E))) (hm : H[m]? = some (.map (mp En.port liV E))) (h3 : H[m3]? = some (.map []))
    (hfm : f ≠ m) (hmm : m ≠ m3) (hndf : (E.map En.fd).Nodup) (hndp : (E.map En.port).Nodup) (hW : H[W]? = some (.cells (RQ tag 7 fd p) 0 true)) {e : En} (hu : fi En.fd fd E = some e) (he : H[e.blk]? = some (.cells [.int .i64 e.port] 0 true)) :
    ∃ H' D, F154 [.pointer (some ⟨b, 0, none⟩), .pointer (some ⟨W, 0, none⟩)] H = some (.pointer (some ⟨D, 0, none⟩), H') ∧ H'[f]? = some (.map (mp En.fd fdV (rmE e E))) ∧ H'[m]? = some (.map (mp En.port liV (rmE e E))) ∧ H'[D]? = some (.cells (DC tag 0 0 0 (⟨#[]⟩ : ByteArray)) 0 true) ∧ Ch (fun k => k = f ∨ k = m) H H' := by
  obtain ⟨heE, hfd⟩ := fi_some _ hu
  subst hfd
  have hbf : b ≠ f := ne_at hb hf (by simp)
  have hbm : b ≠ m := ne_at hb hm (by simp)
  have hWf : W ≠ f := ne_at hW hf (by simp)
  have hWm : W ≠ m := ne_at hW hm (by simp)
  have hml := lt_of_at hm
  have hpu : (fi En.port e.port E).isSome = true := by
    cases hq : fi En.port e.port E with
    | none => exact (((fi_none _).1 hq) e heE rfl).elim
    | some x => rfl
  obtain ⟨H31, hH31⟩ : ∃ X, X = H.set m (.map (mp En.port liV (rmE e E))) ++ [.cells [.map (some m3)] 159383552 true] := ⟨_, rfl⟩
  have e31 : F31 [.pointer (some ⟨t, 0, none⟩), .int .i64 e.port] H = some (.int .i64 0, H31) := by
    rw [hH31, ← rm_port hndf hndp heE]; exact silence31 ht hm h3 hmm hndp hpu
  have b31 : H31[b]? = some (.cells [.pointer (some ⟨t, 0, none⟩), .map (some f), ws, ov, nv] 0 true) := by rw [hH31]; exact at_push (at_set hb hbm.symm) _
  have w31 : H31[W]? = some (.cells (RQ tag 7 e.fd p) 0 true) := by rw [hH31]; exact at_push (at_set hW hWm.symm) _
  have f31 : H31[f]? = some (.map (mp En.fd fdV E)) := by rw [hH31]; exact at_push (at_set hf hfm.symm) _
  have m31 : H31[m]? = some (.map (mp En.port liV (rmE e E))) := by rw [hH31]; exact at_push (at_set_self hml _) _
  obtain ⟨H27, hH27⟩ : ∃ X, X = H31.set f (.map (mp En.fd fdV (rmE e E))) := ⟨_, rfl⟩
  have de : ∀ K : Heap → R, dele H31 (some f) (.int .i64 e.fd) K = K H27 := fun K => by
    simp only [dele, ↓ldm_at f31, keysOk_mp, mdel_mp En.fd fdV hndf, hH27]; rfl
  have w27 : H27[W]? = some (.cells (RQ tag 7 e.fd p) 0 true) := by rw [hH27]; exact at_set w31 hWf.symm
  have e58 := end58 w27 (show (RQ tag 7 e.fd p)[0]? = some (.int .i64 tag) from rfl) 0
  have e183 : F183 [.pointer (some ⟨b, 0, none⟩), .pointer (some ⟨W, 0, none⟩), .pointer (some ⟨e.blk, 0, none⟩)] H = some (.pointer (some ⟨H27.length, 0, none⟩), H27 ++ [.cells (DC tag 0 0 0 (⟨#[]⟩ : ByteArray)) 0 true]) := by
    refine FN_of 1 ((t183 1 (some ⟨b, 0, none⟩) (some ⟨W, 0, none⟩) (some ⟨e.blk, 0, none⟩) H).trans ?_) (Nat.le_of_ble_eq_true (by kernel_rfl))
    simp only [↓onS, ↓kInt_int, ↓kInt_u8, ↓kBool_bool, ↓kStr_str, ↓kTup_tup, ↓kPtr_ptr, ↓kSl_sl, ↓kAgg_agg, ↓kMp_mp, ↓ldc_at hW, Nat.zero_add]
    rw [show (RQ tag 7 e.fd p)[1]? = some (.int .i64 7) from rfl]
    simp only [↓onS, ↓kInt_int, ↓kInt_u8, ↓kBool_bool, ↓kStr_str, ↓kTup_tup, ↓kPtr_ptr, ↓kSl_sl, ↓kAgg_agg, ↓kMp_mp, show ((7 : Int) == 2) = false from rfl, beq_self_eq_true, ↓ldc_at hb, List.getElem?_toArray, List.getElem?_cons_zero, List.getElem?_cons_succ, ↓ldc_at he, ↓on_of e31, ↓ldc_at b31, ↓ldc_at w31, Nat.zero_add]
    rw [show (RQ tag 7 e.fd p)[2]? = some (.int .i64 e.fd) from rfl]
    simp only [↓onS, ↓kInt_int, ↓kInt_u8, ↓kBool_bool, ↓kStr_str, ↓kTup_tup, ↓kPtr_ptr, ↓kSl_sl, ↓kAgg_agg, ↓kMp_mp, de, ↓on_of e58]
    rfl
  refine ⟨H27 ++ [.cells (DC tag 0 0 0 (⟨#[]⟩ : ByteArray)) 0 true], H27.length, FN_of (0 + 1) ((t154 (0 + 1) (some ⟨b, 0, none⟩) (some ⟨W, 0, none⟩) H).trans ?_) (Nat.le_of_ble_eq_true (by kernel_rfl)), ?_, ?_, by simp, ⟨by rw [hH27, hH31]; simp; omega, fun k hk hnk => ?_⟩⟩
  · simp only [↓onS, ↓kInt_int, ↓kInt_u8, ↓kBool_bool, ↓kStr_str, ↓kTup_tup, ↓kPtr_ptr, ↓kSl_sl, ↓kAgg_agg, ↓kMp_mp, ↓ldc_at hW, Nat.zero_add]
    rw [show (RQ tag 7 e.fd p)[1]? = some (.int .i64 7) from rfl]
    simp only [↓onS, ↓kInt_int, ↓kInt_u8, ↓kBool_bool, ↓kStr_str, ↓kTup_tup, ↓kPtr_ptr, ↓kSl_sl, ↓kAgg_agg, ↓kMp_mp, show ((7 : Int) == 1) = false from rfl, show ((7 : Int) == 3) = false from rfl, ↓ldc_at hb, Nat.zero_add, List.getElem?_toArray, List.getElem?_cons_zero, List.getElem?_cons_succ]
    rw [show (RQ tag 7 e.fd p)[2]? = some (.int .i64 e.fd) from rfl]
    simp only [↓onS, ↓kInt_int, ↓kInt_u8, ↓kBool_bool, ↓kStr_str, ↓kTup_tup, ↓kPtr_ptr, ↓kSl_sl, ↓kAgg_agg, ↓kMp_mp, ↓look133 hf, hu, Option.map_some, Option.getD_some, fdV]
    rw [show (1 : Nat) = 0 + 1 from rfl, c154_7]
    simp only [as279, ↓onS, ↓kInt_int, ↓kInt_u8, ↓kBool_bool, ↓kStr_str, ↓kTup_tup, ↓kPtr_ptr, ↓kSl_sl, ↓kAgg_agg, ↓kMp_mp, List.getElem?_toArray, List.getElem?_cons_zero, List.getElem?_cons_succ, ↓on_of e183]
  · refine at_push ?_ _; rw [hH27]; exact at_set_self (lt_of_at f31) _
  · refine at_push ?_ _; rw [hH27]; exact at_set m31 hfm
  · have l31 : H31.length = H.length + 1 := by rw [hH31]; simp
    rw [List.getElem?_append_left (by rw [hH27, List.length_set]; omega), hH27, List.getElem?_set_ne (fun q => hnk (.inl q.symm)), hH31, List.getElem?_append_left (by simp; exact hk), List.getElem?_set_ne (fun q => hnk (.inr q.symm))]
end
end Go.Proofs.YtlpeldimmaajkaaGreat
