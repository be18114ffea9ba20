/- r3: SockNumbers: an act that closes a socket that is there. -/
import Derived.Test.YtlpeldimmaajkaaGreatSkE
set_option linter.unusedVariables false
set_option linter.unusedSimpArgs false
namespace Go.Proofs.YtlpeldimmaajkaaGreat
open Go Go.RowKit Go.Lib Go.Proofs.YtlpeldimmaajkaaGreat.Fw
section
variable {b t f m m2 m3 pb ub L i : Nat} {E : List En} {U : List (Int × Bool)} {H0 H : Heap}
theorem fi_rm {e : En} (hndf : (E.map En.fd).Nodup) (he : e ∈ E) {z : Int} (hz : ¬ z = e.port) : (fi En.port z (rmE e E)).isSome = (fi En.port z E).isSome := by
  cases hq : fi En.port z E with
  | none =>
    have : fi En.port z (rmE e E) = none := (fi_none _).2 fun x hx => (fi_none _).1 hq x ((rm_sub e E).subset hx)
    rw [this]
  | some x =>
    obtain ⟨h1, h2⟩ := fi_some _ hq
    cases hp : fi En.port z (rmE e E) with
    | some y => rfl
    | none =>
      refine (((fi_none _).1 hp) x (List.mem_filter.2 ⟨h1, ?_⟩) h2).elim
      simp only [decide_eq_true_eq]
      exact fun q => hz (by rw [h2, nd_inj hndf he h1 q])
theorem fi_rm_self {e : En} (hndp : (E.map En.port).Nodup) (he : e ∈ E) : fi En.port e.port (rmE e E) = none := (fi_none _).2 fun x hx q => by
  obtain ⟨h1, h2⟩ := List.mem_filter.1 hx
  have : e = x := nd_inj hndp he h1 q
  simp [this] at h2
theorem act_close (h : Li b t f m m2 m3 pb ub L E U i H0 H) (hi : i < 30) {l c2 : Nat} (hil : i < l) {ad : Addr} {cs : List Value} {own : Bool} {v : Int} (hat : H[ad.block]? = some (.cells cs 1 own)) (hget : cs[ad.off + i * 1]? = some (.int .i64 v)) (h6 : ¬ v % 12 < 6) {e : En} (hu : fi En.fd (v % 12 - 6) E = some e) :
    ∃ q E' U' H', (∀ k, R3 (k + q) td3_100007 [.slice (some ad) l c2, .pointer (some ⟨b, 0, none⟩), .map (some pb), .map (some ub), .int .i64 ((i : Nat) : Int)] H = R3 k td3_100007 [.slice (some ad) l c2, .pointer (some ⟨b, 0, none⟩), .map (some pb), .map (some ub), .int .i64 ((i + 1 : Nat) : Int)] H') ∧ Li b t f m m2 m3 pb ub L E' U' (i + 1) H0 H' ∧ q ≤ 40 := by
  have h0 : 0 ≤ v % 12 := Int.emod_nonneg v (by decide)
  have h12 : v % 12 < 12 := Int.emod_lt_of_pos v (by decide)
  have hlen := h.len
  obtain ⟨heE, hfd⟩ := fi_some _ hu
  have hek := h.eok e heE
  have ew : IntKind.i64.wrap (v % 12 - 6) = v % 12 - 6 := wrap_in ⟨by omega, by omega⟩
  have ep : IntKind.i64.wrap (e.port - 100) = e.port - 100 := wrap_in ⟨by omega, by omega⟩
  have ei : IntKind.i64.wrap (((i : Nat) : Int) + 1) = ((i + 1 : Nat) : Int) := wrap_succ (by omega)
  obtain ⟨E', r, H2, rfl, e19, hr, hB, fr, lr, lo⟩ := ask_close h.bx ((i : Nat) : Int) (v % 12 - 6) ((i : Nat) : Int) hu
  obtain ⟨po, us⟩ := h.maps fr
  obtain ⟨lo1, lo2⟩ := lo L h.lo h.ll
  have hl := fun (K : Value → R) => look33 (κ := En.fd) (ν := En.port) (l := E) po (v % 12 - 6) K
  obtain ⟨H13, hH13⟩ : ∃ X, X = H2.set ub (.map (mp Prod.fst usV (ups (e.port - 100) false U))) := ⟨_, rfl⟩
  have up : ∀ K : Heap → R, mupd H2 ub (.int .i64 (e.port - 100)) (.bool false) K = K H13 := fun K => by
    simp only [mupd, ↓ldm_at us, keysOk_mp, mset_ups, hH13]
  have po13 : H13[pb]? = some (.map (mp En.fd poV E)) := by rw [hH13]; exact at_set po h.pu.symm
  obtain ⟨H3, hH3⟩ : ∃ X, X = H13.set pb (.map (mp En.fd poV (rmE e E))) := ⟨_, rfl⟩
  have hd : ∀ K : Heap → R, dele H13 (some pb) (.int .i64 (v % 12 - 6)) K = K H3 := fun K => by
    simp only [dele, ↓ldm_at po13, keysOk_mp, mdel_mp En.fd poV h.bx.ndf, hH3]
    rw [hfd]; rfl
  have ch3 : Ch (fun k => k = pb ∨ k = ub) H2 H3 := by
    rw [hH3, hH13]
    exact (Ch.set (N := fun k => k = pb ∨ k = ub) (.inr rfl) _).trans (Ch.set (N := fun k => k = pb ∨ k = ub) (.inl rfl) _)
  have pbl := lt_of_at po13
  have ubl := lt_of_at us
  refine ⟨4, _, ups (e.port - 100) false U, H3, fun k => ?_, ⟨hB.sets ch3 po us h.pf h.pm h.p3 h.uf h.um h.u3, ?_, fun j hj => ?_, ?_, h.pl, h.ul, h.pf, h.pm, h.uf, h.um, h.pu, h.p3, h.u3, ?_, ?_, fun x hx0 hx6 => ?_, fun x hx => h.eok x ((rm_sub e E).subset hx), ?_⟩, by omega⟩
  · rw [show k + 4 = k + 1 + 1 + 1 + 1 by omega, c3_100007, decide_eq_true (show ((i : Nat) : Int) < ((l : Nat) : Int) by omega), decide_eq_true (show ((i : Nat) : Int) < 30 by omega)]
    simp only [↓onS, ↓kInt_int, ↓kInt_u8, ↓kBool_bool, ↓kStr_str, ↓kTup_tup, ↓kPtr_ptr, ↓kSl_sl, ↓kAgg_agg, ↓kMp_mp]
    rw [if_pos ⟨by omega, by omega⟩]
    simp only [Int.toNat_natCast, add_block, add_off, ↓ldc_at hat, hget, ↓onS, ↓kInt_int, ↓kInt_u8, ↓kBool_bool, ↓kStr_str, ↓kTup_tup, ↓kPtr_ptr, ↓kSl_sl, ↓kAgg_agg, ↓kMp_mp, ↓on_of (among18 v (n := 12) (by decide) (by decide) H)]
    rw [decide_eq_false h6]
    simp only [ew, ↓on_of e19, ↓onS, ↓kInt_int, ↓kInt_u8, ↓kBool_bool, ↓kStr_str, ↓kTup_tup, ↓kPtr_ptr, ↓kSl_sl, ↓kAgg_agg, ↓kMp_mp, List.getElem?_toArray, List.getElem?_cons_zero, List.getElem?_cons_succ]
    rw [show (((1 : Nat) : Int) != 1) = false from rfl]
    simp only [↓onS, ↓kInt_int, ↓kInt_u8, ↓kBool_bool, ↓kStr_str, ↓kTup_tup, ↓kPtr_ptr, ↓kSl_sl, ↓kAgg_agg, ↓kMp_mp]
    have q1 : (DC (i : Int) 0 0 0 (⟨#[]⟩ : ByteArray))[0 + 0 + 1]? = some (.int .i64 0) := rfl
    have z1 : 0 ≤ (0 : Int) ∧ (0 : Int) < ((1 : Nat) : Int) := ⟨by omega, by omega⟩
    rw [if_pos z1]
    have hpn : (e.port != 0) = true := by simp; omega
    have b1 : (!(((0 : Int) == 0) == true)) = false := rfl
    simp only [show ((0 : Int).toNat * 5) = 0 from rfl, ↓ldc_at hr, q1, ↓onS, ↓kInt_int, ↓kInt_u8, ↓kBool_bool, ↓kStr_str, ↓kTup_tup, ↓kPtr_ptr, ↓kSl_sl, ↓kAgg_agg, ↓kMp_mp, hl, hu, Option.map_some, Option.getD_some, hpn, b1, z1, if_true, and_self, bne_self_eq_false, c3_25, ep, up, c3_27, hd, c3_8, ei]
  · obtain ⟨a1, cc1, now1, hb1, _⟩ := hB.box
    have hbk : H3[b]? = H2[b]? := ch3.kept b (lt_of_at hb1) (by rintro (q | q); exact ne_at hb1 po (by simp) q; exact ne_at hb1 us (by simp) q)
    exact ⟨lo1.1, lo1.2.1, lo1.2.2.1, fun cs e o a l c h1 h2 => lo1.2.2.2 cs e o a l c (by rw [← hbk]; exact h1) h2⟩
  · have e1 := h.ll
    have e2 := fr.len
    have e3 := h.pl
    have e4 := h.ul
    exact (ch3.kept j (by omega) (by rintro (q | q) <;> omega)).trans ((lo2 j hj).trans (h.kept j hj))
  · have := ch3.len; have := fr.len; have := h.ll; omega
  · rw [hH3]; exact at_set_self pbl _
  · rw [hH3, hH13]; exact at_set (at_set_self ubl _) h.pu
  · by_cases hx : x = e.port - 100
    · rw [hx, fi_ups, show 100 + (e.port - 100) = e.port by omega, fi_rm_self h.bx.ndp heE]; rfl
    · rw [fi_ups_ne false hx, h.uok x hx0 hx6, fi_rm h.bx.ndf heE (by omega)]
  · have := (rm_sub e E).length_le; omega
end
end Go.Proofs.YtlpeldimmaajkaaGreat
