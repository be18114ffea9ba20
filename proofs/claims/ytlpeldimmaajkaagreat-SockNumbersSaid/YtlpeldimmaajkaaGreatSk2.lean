/- r3: sockets that listen: a box in memory; the least free number; ports. -/
import Derived.Test.YtlpeldimmaajkaaGreatSk1
set_option linter.unusedVariables false
set_option linter.unusedSimpArgs false
namespace Go.Proofs.YtlpeldimmaajkaaGreat
open Go Go.RowKit Go.Lib Go.Proofs.YtlpeldimmaajkaaGreat.Fw
/-- A socket that listens: its number, its block, its port. -/
structure En where
  fd : Int
  blk : Nat
  port : Int
def fdV (e : En) : Value := .iface 279 (.pointer (some ⟨e.blk, 0, none⟩))
def liV (e : En) : Value := .bool true
theorem ph : ∀ (n : Nat) (l : List Int), l.Nodup → (∀ k : Nat, k < n → ((k : Nat) : Int) ∈ l) → n ≤ l.length
  | 0, _, _, _ => Nat.zero_le _
  | n + 1, l, hl, h => by
    have hm := h n (by omega)
    have := ph n (l.erase (n : Int)) (hl.erase _) fun k hk => (List.mem_erase_of_ne (by omega)).2 (h k (by omega))
    rw [List.length_erase_of_mem hm] at this
    have : 0 < l.length := List.length_pos_of_mem hm
    omega
theorem free_at {E : List En} (hn : (E.map En.fd).Nodup) : ∃ n : Nat, n ≤ E.length ∧ fi En.fd ((n : Nat) : Int) E = none := by
  refine Classical.byContradiction fun h => ?_
  have hall : ∀ k : Nat, k < E.length + 1 → ((k : Nat) : Int) ∈ E.map En.fd := fun k hk => by
    cases hq : fi En.fd ((k : Nat) : Int) E with
    | none => exact (h ⟨k, by omega, hq⟩).elim
    | some e =>
      obtain ⟨h1, h2⟩ := fi_some _ hq
      exact List.mem_map.2 ⟨e, h1, h2.symm⟩
  have := ph _ _ hn hall
  rw [List.length_map] at this
  omega
theorem ne_at {H : Heap} {x y : Nat} {o o' : AObj} (h : H[x]? = some o) (h' : H[y]? = some o') (hne : o ≠ o') : x ≠ y := fun q => hne (by rw [q, h'] at h; exact (Option.some.inj h).symm)
theorem kTy_int (n : Int) (K : Value → R) : kTy (some (KD.int .i64)) (.int .i64 n) K = K (.int .i64 n) := by simp [kTy, kInt]
/-- A lookup in a map of whole numbers. -/
theorem look_mp {T : Type} {κ : T → Int} {ν : T → Value} {mt kt et : TypeId} (hm : Tryz.prog.underlying mt = some (.map kt et)) (hk : keyKd Tryz.prog kt = some (.int .i64)) {z : Value} (hz : zeroOf Tryz.prog et = some z) (hp : plainV z = true) (hT : ∀ (v : Value) (K : Value → R), (v = z ∨ ∃ e, v = ν e) → kTy (kdOf Tryz.prog et) v K = K v)
    {H : Heap} {b : Nat} {l : List T} (h : H[b]? = some (.map (mp κ ν l))) (n : Int) (ok : Bool) (K : Value → R) :
    lookupK Tryz.prog mt H (.map (some b)) (.int .i64 n) ok K = K (okV ok (((fi κ n l).map ν).getD z) (fi κ n l).isSome) := by
  unfold lookupK
  rw [hm]
  simp only [hk, ↓onS]
  rw [kTy_int]
  simp only [↓kMp_mp, ↓ldmo_at h, keysOk_mp, mfind_mp]
  cases fi κ n l with
  | none =>
    simp only [Option.map_none, hz, ↓onS, hp]
    rfl
  | some e =>
    simp only [Option.map_some]
    rw [hT _ _ (.inr ⟨e, rfl⟩)]
    rfl
theorem m133 : Tryz.prog.underlying 133 = some (.map 3 149) := by kernel_rfl
theorem m34 : Tryz.prog.underlying 34 = some (.map 3 4) := by kernel_rfl
theorem m33 : Tryz.prog.underlying 33 = some (.map 3 3) := by kernel_rfl
theorem k3 : keyKd Tryz.prog 3 = some (.int .i64) := by kernel_rfl
theorem z149 : zeroOf Tryz.prog 149 = some .nilIface := by kernel_rfl
theorem z3 : zeroOf Tryz.prog 3 = some (.int .i64 0) := by kernel_rfl
theorem z4 : zeroOf Tryz.prog 4 = some (.bool false) := by kernel_rfl
theorem d149 : kdOf Tryz.prog 149 = some .any := by kernel_rfl
theorem d3 : kdOf Tryz.prog 3 = some (.int .i64) := by kernel_rfl
theorem d4 : kdOf Tryz.prog 4 = some .bool := by kernel_rfl
theorem look133 {H : Heap} {b : Nat} {E : List En} (h : H[b]? = some (.map (mp En.fd fdV E))) (n : Int) (K : Value → R) :
    lookupK Tryz.prog 133 H (.map (some b)) (.int .i64 n) false K = K (((fi En.fd n E).map fdV).getD .nilIface) := by
  rw [look_mp m133 k3 z149 rfl (fun v K _ => by rw [d149]; rfl) h]; rfl
theorem look34 {H : Heap} {b : Nat} {T : Type} {κ : T → Int} {ν : T → Bool} {l : List T} (h : H[b]? = some (.map (mp κ (fun e => .bool (ν e)) l))) (n : Int) (K : Value → R) :
    lookupK Tryz.prog 34 H (.map (some b)) (.int .i64 n) false K = K (.bool (((fi κ n l).map ν).getD false)) := by
  rw [look_mp m34 k3 z4 rfl (fun v K hv => by
    rw [d4]
    rcases hv with rfl | ⟨e, rfl⟩ <;> simp [kTy, kBool]) h]
  cases fi κ n l <;> rfl
theorem look33 {H : Heap} {b : Nat} {T : Type} {κ : T → Int} {ν : T → Int} {l : List T} (h : H[b]? = some (.map (mp κ (fun e => .int .i64 (ν e)) l))) (n : Int) (K : Value → R) :
    lookupK Tryz.prog 33 H (.map (some b)) (.int .i64 n) false K = K (.int .i64 (((fi κ n l).map ν).getD 0)) := by
  rw [look_mp m33 k3 z3 rfl (fun v K hv => by
    rw [d3]
    rcases hv with rfl | ⟨e, rfl⟩ <;> simp [kTy, kInt]) h]
  cases fi κ n l <;> rfl
/-- The least free number. -/
def Least (E : List En) (n : Nat) : Prop := fi En.fd ((n : Nat) : Int) E = none ∧ ∀ k : Nat, k < n → (fi En.fd ((k : Nat) : Int) E).isSome = true
theorem least_le {E : List En} (hn : (E.map En.fd).Nodup) {n : Nat} (h : Least E n) : n ≤ E.length := by
  obtain ⟨m, h1, h2⟩ := free_at hn
  rcases Nat.lt_or_ge m n with q | q
  · have := h.2 m q; rw [h2] at this; cases this
  · omega
theorem least_ex {E : List En} (hn : (E.map En.fd).Nodup) : ∃ n, Least E n := by
  obtain ⟨m, _, h2⟩ := free_at hn
  have key : ∀ r i : Nat, i + r = m → (∀ k : Nat, k < i → (fi En.fd ((k : Nat) : Int) E).isSome = true) → ∃ n, Least E n := by
    intro r
    induction r with
    | zero => intro i hi hk; exact ⟨i, by rw [show i = m by omega]; exact h2, hk⟩
    | succ r ih =>
      intro i hi hk
      cases hq : fi En.fd ((i : Nat) : Int) E with
      | none => exact ⟨i, hq, hk⟩
      | some e =>
        refine ih (i + 1) (by omega) fun k hk2 => ?_
        rcases Nat.lt_or_ge k i with q | q
        · exact hk k q
        · rw [show k = i by omega, hq]; rfl
  exact key m 0 (by omega) fun k hk => by omega
theorem least_one {E : List En} {m n : Nat} (h : Least E m) (k : Least E n) : m = n := by
  rcases Nat.lt_trichotomy m n with q | q | q
  · have := k.2 m q; rw [h.1] at this; cases this
  · exact q
  · have := h.2 n q; rw [k.1] at this; cases this
theorem free207 {H : Heap} {b f : Nat} {cs : List Value} {E : List En} (hb : H[b]? = some (.cells cs 0 true)) (h1 : cs[1]? = some (.map (some f))) (hf : H[f]? = some (.map (mp En.fd fdV E))) {n : Nat} (hn : Least E n) (h64 : n < 64) :
    F207 [.pointer (some ⟨b, 0, none⟩)] H = some (.tuple #[.int .i64 ((n : Nat) : Int), .bool true], H) := by
  have key : ∀ (r i m : Nat), i + r = n → R207 (m + r + 1) td207_100002 [.pointer (some ⟨b, 0, none⟩), .int .i64 ((i : Nat) : Int)] H = some (.tuple #[.int .i64 ((n : Nat) : Int), .bool true], H) := by
    intro r
    induction r with
    | zero =>
      intro i m hi
      have hin : i = n := by omega
      rw [c207_100002, decide_eq_true (show ((i : Nat) : Int) < 64 by omega)]
      simp only [↓onS, ↓kInt_int, ↓kInt_u8, ↓kBool_bool, ↓kStr_str, ↓kTup_tup, ↓kPtr_ptr, ↓kSl_sl, ↓kAgg_agg, ↓kMp_mp, ↓ldc_at hb, Nat.zero_add, h1, ↓look133 hf]
      rw [hin, hn.1]; rfl
    | succ r ih =>
      intro i m hi
      rw [show m + (r + 1) + 1 = (m + r + 1) + 1 by omega, c207_100002, decide_eq_true (show ((i : Nat) : Int) < 64 by omega)]
      simp only [↓onS, ↓kInt_int, ↓kInt_u8, ↓kBool_bool, ↓kStr_str, ↓kTup_tup, ↓kPtr_ptr, ↓kSl_sl, ↓kAgg_agg, ↓kMp_mp, ↓ldc_at hb, Nat.zero_add, h1, ↓look133 hf, wrap_succ (show i + 1 < 9223372036854775808 by omega)]
      have hs := hn.2 i (by omega)
      cases hq : fi En.fd ((i : Nat) : Int) E with
      | none => rw [hq] at hs; cases hs
      | some e => exact ih (i + 1) m (by omega)
  exact FN_of (0 + n + 1) ((t207 _ (some ⟨b, 0, none⟩) H).trans (key n 0 0 (by omega))) (Nat.le_of_ble_eq_true (by kernel_rfl))
end Go.Proofs.YtlpeldimmaajkaaGreat
