/- FRAMEWORK 31: what a call changes; rows that are read whole; texts that are compared; small laws. -/
import Derived.Test.YtlpeldimmaajkaaGreatFwQ
import Derived.Test.YtlpeldimmaajkaaGreatFwS
import Derived.Test.YtlpeldimmaajkaaGreatFwU
set_option linter.unusedVariables false
set_option linter.unusedSimpArgs false
namespace Go.Proofs.YtlpeldimmaajkaaGreat.Fw
open Go Go.RowKit

/-- What lay there ahead lies there as it did, but for some blocks. -/
structure Ch (N : Nat → Prop) (H H' : Heap) : Prop where
  len : H.length ≤ H'.length
  kept : ∀ k, k < H.length → ¬ N k → H'[k]? = H[k]?
theorem Ch.refl (N : Nat → Prop) (H : Heap) : Ch N H H := ⟨Nat.le_refl _, fun _ _ _ => rfl⟩
theorem Ch.push (N : Nat → Prop) (H g : Heap) : Ch N H (H ++ g) := ⟨by simp, fun k hk _ => List.getElem?_append_left hk⟩
theorem Ch.set {N : Nat → Prop} {H : Heap} {b : Nat} (hb : N b) (o : AObj) : Ch N H (H.set b o) :=
  ⟨by simp, fun k _ hk => List.getElem?_set_ne (fun e : b = k => hk (by rw [← e]; exact hb))⟩
theorem Ch.trans {N : Nat → Prop} {H H1 H2 : Heap} (h : Ch N H H1) (k : Ch N H1 H2) : Ch N H H2 :=
  ⟨Nat.le_trans h.len k.len, fun j hj hn => (k.kept j (Nat.lt_of_lt_of_le hj h.len) hn).trans (h.kept j hj hn)⟩
theorem Ch.mono {N N' : Nat → Prop} {H H' : Heap} (h : Ch N H H') (hn : ∀ k, N k → N' k) : Ch N' H H' := ⟨h.len, fun k hk hk' => h.kept k hk fun q => hk' (hn k q)⟩
theorem Ch.at_ {N : Nat → Prop} {H H' : Heap} (h : Ch N H H') {k : Nat} {o : AObj} (hk : H[k]? = some o) (hn : ¬ N k) : H'[k]? = some o :=
  (h.kept k (List.getElem?_eq_some_iff.1 hk).1 hn).trans hk
theorem Ch.lt {N : Nat → Prop} {H H' : Heap} (h : Ch N H H') {k : Nat} (hk : k < H.length) : k < H'.length := Nat.lt_of_lt_of_le hk h.len

/-- As Ch; and what is owned behind the call was owned, or is new. -/
structure Go' (N : Nat → Prop) (H : Heap) (N' : Nat → Prop) (H' : Heap) : Prop where
  ch : Ch N H H'
  own : ∀ k, N' k → N k ∨ H.length ≤ k
theorem Go'.refl (N : Nat → Prop) (H : Heap) : Go' N H N H := ⟨Ch.refl _ _, fun _ h => .inl h⟩
theorem Go'.trans {N N1 N2 : Nat → Prop} {H H1 H2 : Heap} (h : Go' N H N1 H1) (k : Go' N1 H1 N2 H2) : Go' N H N2 H2 := by
  refine ⟨⟨Nat.le_trans h.ch.len k.ch.len, fun j hj hn => ?_⟩, fun j hj => ?_⟩
  · have : ¬ N1 j := fun q => by
      rcases h.own j q with q | q
      · exact hn q
      · omega
    exact (k.ch.kept j (Nat.lt_of_lt_of_le hj h.ch.len) this).trans (h.ch.kept j hj hn)
  · rcases k.own j hj with q | q
    · exact h.own j q
    · exact .inr (Nat.le_trans h.ch.len q)
theorem Go'.new {N0 N NB : Nat → Prop} {H0 H H' : Heap} (g : Go' N0 H0 N H) (c : Ch NB H H') (hb : ∀ k, NB k → N k ∨ H0.length ≤ k) : Go' N0 H0 N H' :=
  ⟨⟨Nat.le_trans g.ch.len c.len, fun k hk hn => (c.kept k (Nat.lt_of_lt_of_le hk g.ch.len) fun q => by
    rcases hb k q with q | q
    · rcases g.own k q with q | q
      · exact hn q
      · omega
    · omega).trans (g.ch.kept k hk hn)⟩, g.own⟩
theorem lt_of_at {H : Heap} {k : Nat} {o : AObj} (h : H[k]? = some o) : k < H.length := (List.getElem?_eq_some_iff.1 h).1
theorem at_push {H : Heap} {k : Nat} {o : AObj} (h : H[k]? = some o) (g : Heap) : (H ++ g)[k]? = some o := by
  rw [List.getElem?_append_left (lt_of_at h)]; exact h
theorem at_set {H : Heap} {k b : Nat} {o o' : AObj} (h : H[k]? = some o) (hne : b ≠ k) : (H.set b o')[k]? = some o := by
  rw [List.getElem?_set_ne hne]; exact h
theorem at_set_self {H : Heap} {b : Nat} (hb : b < H.length) (o : AObj) : (H.set b o)[b]? = some o := by simp [hb]
theorem at_end (H : Heap) (o : AObj) (g : Heap) : (H ++ o :: g)[H.length]? = some o := by simp

section
variable {β : Type}
theorem firstC_blk {H : Heap} {b n : Nat} {cs : List Value} {o : Bool} {ez : Nat} (h : H[b]? = some (.cells cs ez o)) (hn : cs.length = n) (k : Nat → List Value → Option β) : firstC H n (.slice (some ⟨b, 0, none⟩) 1 1) k = k 1 cs := by
  simp only [firstC, ldc, h]
  rw [if_pos (by omega)]
  unfold range
  rw [List.drop_zero, List.take_of_length_le (by omega)]
theorem firstC_vec {Z : Nat → Prop} {H : Heap} {a : Option Addr} {l c n : Nat} {vs : List Value} (h : Vec n Z H a l c vs) (k : Nat → List Value → Option β) : firstC H n (.slice a l c) k = k l vs := by
  obtain ⟨h0, h⟩ := h
  rcases h with ⟨rfl, rfl, rfl⟩ | ⟨j, cs, ez, _, rfl, hj, ht, _⟩
  · have : vs = [] := by simpa using h0
    subst this
    rfl
  · have hle := Vec.len_le (H := H) (c := c) (j := j) h0 ht
    simp only [firstC, ldc, hj]
    rw [if_pos (by omega)]
    unfold range
    rw [List.drop_zero, ht]
theorem firstC_str (H : Heap) (x : List UInt8) (K : Nat → List Value → Option β) : firstC H 1 (.string (bs x)) K = K x.length (bc x) := by
  simp only [firstC, Nat.beq_refl, bs_size, bs_data]
  rfl
theorem ptrEq_same (w : Nat) (K : Bool → Option β) : ptrEq (some ⟨w, 0, none⟩) (some ⟨w, 0, none⟩) K = K true := by simp [ptrEq]
theorem fromU_at {H : Heap} {w u n ez : Nat} {cs : List Value} (h : H[w]? = some (.cells cs ez true)) (hl : n ≤ cs.length) (hn : n ≠ 0) (hz : ez / tyM = u + 1) (k : Option β) : fromU H ⟨w, 0, none⟩ u n k = k := by
  simp only [fromU, h]
  rw [if_pos ⟨trivial, hl, hn, hz⟩]
theorem set_self {H : Heap} {k : Nat} {o : AObj} (h : H[k]? = some o) : H.set k o = H := by
  apply List.ext_getElem?
  intro j
  by_cases e : j = k
  · subst e
    rw [h]; simp [lt_of_at h]
  · rw [List.getElem?_set_ne (Ne.symm e)]
theorem uStr_at {H : Heap} {j u : Nat} {cs : List Value} {ez : Nat} {t : List UInt8} (hz : ez / tyM = u + 1) (h : H[j]? = some (.cells cs ez true)) (ht : cs.take t.length = bc t) (h0 : 0 < t.length) (h63 : (t.length : Int) ≤ 9223372036854775807) (K : ByteArray → Heap → Option β) :
    uStr H ⟨j, 0, none⟩ ((t.length : Nat) : Int) u 1 K = K (bs t) (H.set j .dead) := by
  have hle : t.length ≤ cs.length := by
    have := congrArg List.length ht
    rw [List.length_take, bc_len] at this; omega
  simp only [uStr, h]
  rw [if_pos ⟨by omega, h63, by simpa using hle, trivial, hz, trivial⟩, Int.toNat_natCast, ht, bytesOf_bc]
  rfl
/-- A text against one that is written out. -/
theorem eq_lit (t : List UInt8) (a : Array UInt8) : ((bs t).toList == (⟨a⟩ : ByteArray).toList) = decide (t = a.toList) := by
  rw [bs_list, show (⟨a⟩ : ByteArray).toList = a.toList from by simp [ByteArray.toList_eq]]
  by_cases h : t = a.toList
  · subst h; simp
  · simp [h]
theorem ba_list (a : Array UInt8) : (⟨a⟩ : ByteArray).toList = a.toList := by simp [ByteArray.toList_eq]
theorem lit_bs (l : List UInt8) : (⟨l.toArray⟩ : ByteArray) = bs l := by simp [bs]
theorem ldm_at {H : Heap} {b : Nat} {es : List (Value × Value)} (h : H[b]? = some (.map es)) (k : List (Value × Value) → Option β) : ldm H b k = k es := by simp [ldm, h]
theorem ldmo_at {H : Heap} {b : Nat} {es : List (Value × Value)} (h : H[b]? = some (.map es)) (k : List (Value × Value) → Option β) : ldmo H (some b) k = k es := by simp [ldmo, ldm, h]
theorem lookupK_at {P : Program} {mt kt et : TypeId} (hm : P.underlying mt = some (.map kt et)) (hk : keyKd P kt = some .string) (he : kdOf P et = some .string) (hz : zeroOf P et = some (.string (bs []))) {H : Heap} {b : Nat} {es : List (Value × Value)} (h : H[b]? = some (.map es)) {n : List UInt8} (hok : keysOk (.string (bs n)) es = true)
    {r : Option (List UInt8)} (hr : mfind (.string (bs n)) es = r.map fun v => .string (bs v)) (ok : Bool) (K : Value → Option β) :
    lookupK P mt H (.map (some b)) (.string (bs n)) ok K = K (okV ok (.string (bs (r.getD []))) r.isSome) := by
  unfold lookupK
  rw [hm]
  simp only [hk, ↓onS]
  show kTy (some KD.string) (.string (bs n)) _ = _
  simp only [kTy, kStr_str, ↓kMp_mp, ↓ldmo_at h, hok, hr]
  cases r with
  | none =>
    simp only [Option.map_none, hz, ↓onS]
    rfl
  | some v =>
    simp only [Option.map_some, he, kTy, kStr_str]
    rfl
theorem mupd_at {H : Heap} {b : Nat} {es : List (Value × Value)} (h : H[b]? = some (.map es)) {n : List UInt8} (hok : keysOk (.string (bs n)) es = true) (v : Value) (K : Heap → Option β) : mupd H b (.string (bs n)) v K = K (H.set b (.map (mset (.string (bs n)) v es))) := by
  unfold mupd
  rw [ldm_at h]
  simp only [hok]
theorem dele_at {H : Heap} {b : Nat} {es : List (Value × Value)} (h : H[b]? = some (.map es)) {n : List UInt8} (hok : keysOk (.string (bs n)) es = true) (K : Heap → Option β) : dele H (some b) (.string (bs n)) K = K (H.set b (.map (mdel (.string (bs n)) es))) := by
  simp only [dele, ↓ldm_at h, hok]
end
theorem Recs.one {T : Type} {mk : T → Value} {H : Heap} {a : Option Addr} {l : Nat} {xs : List T} (h : Recs (fun v => [mk v]) 1 H a l xs) {i : Nat} {v : T} (hi : xs[i]? = some v) : ∃ x cs own, a = some x ∧ H[x.block]? = some (.cells cs 1 own) ∧ cs[x.off + i * 1]? = some (mk v) := by
  obtain ⟨x, cs, own, e, h1, h2, h3⟩ := h.get hi
  refine ⟨x, cs, own, e, h1, ?_⟩
  unfold range at h3
  have : ((cs.drop (x.off + i * 1)).take 1)[0]? = some (mk v) := by rw [h3]; rfl
  rw [List.getElem?_take] at this
  simpa using this
theorem Recs.ch {T : Type} {f : T → List Value} {sz : Nat} {N : Nat → Prop} {H H' : Heap} {a : Option Addr} {l : Nat} {xs : List T} (h : Recs f sz H a l xs) (c : Ch N H H') (ha : ∀ x, a = some x → ¬ N x.block) : Recs f sz H' a l xs :=
  h.keep fun x hx cs own h1 => c.at_ h1 (ha x hx)
end Go.Proofs.YtlpeldimmaajkaaGreat.Fw
