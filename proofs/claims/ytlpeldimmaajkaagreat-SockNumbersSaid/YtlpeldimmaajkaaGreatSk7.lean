/- r3: sockets: a box between two calls; what a call brings. -/
import Derived.Test.YtlpeldimmaajkaaGreatSk6
set_option linter.unusedVariables false
set_option linter.unusedSimpArgs false
namespace Go.Proofs.YtlpeldimmaajkaaGreat
open Go Go.RowKit Go.Lib Go.Proofs.YtlpeldimmaajkaaGreat.Fw
/-- The tables of a box. -/
structure Pt (t f m m2 m3 : Nat) (E : List En) (H : Heap) : Prop where
  tab : H[t]? = some (.cells (TB m m2 m3 0) 0 true)
  fds : H[f]? = some (.map (mp En.fd fdV E))
  lst : H[m]? = some (.map (mp En.port liV E))
  alm : H[m3]? = some (.map [])
  prt : ∀ e ∈ E, H[e.blk]? = some (.cells [.int .i64 e.port] 0 true)
/-- A box of which no request waits. -/
structure Bx (b t f m m2 m3 : Nat) (E : List En) (H : Heap) : Prop where
  box : ∃ a c now, H[b]? = some (.cells [.pointer (some ⟨t, 0, none⟩), .map (some f), .slice a 0 c, .slice none 0 0, .int .i64 now] 0 true) ∧ Ws a c H
  pt : Pt t f m m2 m3 E H
  fm : f ≠ m
  fm3 : f ≠ m3
  mm3 : m ≠ m3
  ndf : (E.map En.fd).Nodup
  ndp : (E.map En.port).Nodup
/-- The box's own lies behind a place. -/
def Lo (L b f m : Nat) (H : Heap) : Prop := L ≤ b ∧ L ≤ f ∧ L ≤ m ∧ ∀ cs e o a l c, H[b]? = some (.cells cs e o) → cs[2]? = some (.slice (some a) l c) → L ≤ a.block
/-- What lay there lies there, but for the box's own. -/
structure Fr (b f m : Nat) (H H' : Heap) : Prop where
  len : H.length ≤ H'.length
  kept : ∀ k, k < H.length → k ≠ b → k ≠ f → k ≠ m → (∀ v, H[k]? ≠ some (.cells [.pointer v] 1 true)) → H'[k]? = H[k]?
theorem Fr.refl (b f m : Nat) (H : Heap) : Fr b f m H H := ⟨Nat.le_refl _, fun _ _ _ _ _ _ => rfl⟩
theorem Fr.trans {b f m : Nat} {H H1 H2 : Heap} (h : Fr b f m H H1) (k : Fr b f m H1 H2) : Fr b f m H H2 :=
  ⟨Nat.le_trans h.len k.len, fun j h1 h2 h3 h4 h5 => by
    have e := h.kept j h1 h2 h3 h4 h5
    rw [k.kept j (Nat.lt_of_lt_of_le h1 h.len) h2 h3 h4 (by rw [e]; exact h5), e]⟩
theorem Fr.ch {b f m : Nat} {H H' : Heap} (c : Ch (fun _ => False) H H') : Fr b f m H H' := ⟨c.len, fun k h1 _ _ _ _ => c.kept k h1 id⟩
section
variable {b t f m m2 m3 : Nat} {E : List En} {H : Heap}
theorem tb_ne (v : Option Addr) : TB m m2 m3 0 ≠ [.pointer v] := fun q => by
  have := congrArg List.length q
  simp [TB, SU] at this
theorem ask_fin (hB : Bx b t f m m2 m3 E H) (tag kind fd p now : Int) (k1 : 1 ≤ kind) (k9 : kind ≤ 9) (Q : List En → Prop) (code fd' n : Int) (hQ : ∀ E', Q E' → (E'.map En.fd).Nodup ∧ (E'.map En.port).Nodup)
    (turn : ∀ (W : Nat) (ws ov nv : Value) (G : Heap), H.length ≤ G.length → G[b]? = some (.cells [.pointer (some ⟨t, 0, none⟩), .map (some f), ws, ov, nv] 0 true) → Pt t f m m2 m3 E G → G[W]? = some (.cells (RQ tag kind fd p) 0 true) →
      ∃ E' H1 D, Q E' ∧ F154 [.pointer (some ⟨b, 0, none⟩), .pointer (some ⟨W, 0, none⟩)] G = some (.pointer (some ⟨D, 0, none⟩), H1) ∧ H1[f]? = some (.map (mp En.fd fdV E')) ∧ H1[m]? = some (.map (mp En.port liV E')) ∧ (∀ e ∈ E', H1[e.blk]? = some (.cells [.int .i64 e.port] 0 true)) ∧ H1[D]? = some (.cells (DC tag code fd' n (⟨#[]⟩ : ByteArray)) 0 true) ∧ Ch (fun k => k = f ∨ k = m) G H1) :
    ∃ E' r H2, Q E' ∧ F19 [.pointer (some ⟨b, 0, none⟩), .agg #[.int .i64 tag, .int .i64 kind, .int .i64 fd, .int .i64 0, .int .i64 p, .int .i64 0, .string (⟨#[]⟩ : ByteArray)], .int .i64 now] H = some (.tuple #[.slice (some ⟨r, 0, none⟩) 1 unk, .slice none 0 0], H2) ∧ H2[r]? = some (.cells (DC tag code fd' n (⟨#[]⟩ : ByteArray)) 5 true) ∧ Bx b t f m m2 m3 E' H2 ∧ Fr b f m H H2 ∧ H.length ≤ r ∧ ∀ L, Lo L b f m H → L ≤ H.length → Lo L b f m H2 ∧ ∀ k, k < L → H2[k]? = H[k]? := by
  obtain ⟨a, c, now0, hb, hws⟩ := hB.box
  obtain ⟨W, j, c', G, e19, gb, gj, hc', gW, gk, gl, gab⟩ := ask_pre hb hws tag kind fd p now k1 k9
  have jne : ∀ k o, H[k]? = some o → (∀ v, o ≠ .cells [.pointer v] 1 true) → k ≠ j := fun k o h1 h2 => by
    rcases gab with q | q
    · rcases hws with ⟨h, _⟩ | ⟨j2, v, e1, e2, e3⟩
      · rw [h] at q; cases q
      · rw [e1] at q
        have e : j2 = j := by simpa [ab] using q
        subst e
        exact ne_at h1 e3 (h2 v)
    · have := lt_of_at h1; omega
  have kp : ∀ k o, H[k]? = some o → k ≠ b → (∀ v, o ≠ .cells [.pointer v] 1 true) → G[k]? = some o := fun k o h1 h2 h3 => (gk k (lt_of_at h1) h2 (jne k o h1 h3)).trans h1
  have tne : ∀ v, AObj.cells (TB m m2 m3 0) 0 true ≠ .cells [.pointer v] 1 true := fun v q => by injection q with q; exact tb_ne v q
  have hPt : Pt t f m m2 m3 E G := ⟨kp t _ hB.pt.tab (ne_at hB.pt.tab hb (fun q => by injection q with q; have := congrArg List.length q; simp [TB, SU] at this)) tne, kp f _ hB.pt.fds (ne_at hB.pt.fds hb (by simp)) (by simp), kp m _ hB.pt.lst (ne_at hB.pt.lst hb (by simp)) (by simp), kp m3 _ hB.pt.alm (ne_at hB.pt.alm hb (by simp)) (by simp), fun e he => kp _ _ (hB.pt.prt e he) (ne_at (hB.pt.prt e he) hb (by simp)) (by simp)⟩
  obtain ⟨E', H1, D, hE, e154, q1, q2, q3, q4, q5⟩ := turn W _ _ _ G gl gb hPt gW
  have bf : b ≠ f := ne_at gb hPt.fds (by simp)
  have bm : b ≠ m := ne_at gb hPt.lst (by simp)
  have jf : j ≠ f := ne_at gj hPt.fds (by simp)
  have jm : j ≠ m := ne_at gj hPt.lst (by simp)
  have hb1 : H1[b]? = G[b]? := q5.kept b (lt_of_at gb) (by rintro (q | q); exact bf q; exact bm q)
  have hj1 : H1[j]? = G[j]? := q5.kept j (lt_of_at gj) (by rintro (q | q); exact jf q; exact jm q)
  obtain ⟨r, H2, e59, r1, r2, r3, r4, r5⟩ := told59 gb gj hc' e154 hb1 hj1 q4
  have hl1 := q5.len
  have k2 : ∀ k o, H1[k]? = some o → k ≠ b → k ≠ j → H2[k]? = some o := fun k o h1 h2 h3 => r5.at_ h1 (by rintro (q | q); exact h2 q; exact h3 q)
  have bb1 := hb1.trans gb
  have jj1 := hj1.trans gj
  have tab1 : H1[t]? = some (.cells (TB m m2 m3 0) 0 true) := q5.at_ hPt.tab (by rintro (q | q); exact ne_at hPt.tab hPt.fds (by simp) q; exact ne_at hPt.tab hPt.lst (by simp) q)
  have alm1 : H1[m3]? = some (.map []) := q5.at_ hPt.alm (by rintro (q | q); exact hB.fm3 q.symm; exact hB.mm3 q.symm)
  refine ⟨E', r, H2, hE, e19 _ _ _ _ _ _ _ e59, r2, ⟨⟨some ⟨j, 0, none⟩, unk + 1, now, r3, .inr ⟨j, none, rfl, rfl, r4⟩⟩, ⟨?_, ?_, ?_, ?_, fun e he => ?_⟩, hB.fm, hB.fm3, hB.mm3, (hQ E' hE).1, (hQ E' hE).2⟩, ⟨by have := r5.len; omega, fun k h1 h2 h3 h4 h5 => ?_⟩, by omega, fun L hLo hLH => ?_⟩
  · exact k2 t _ tab1 (ne_at tab1 bb1 (fun q => by injection q with q; have := congrArg List.length q; simp [TB, SU] at this)) (ne_at tab1 jj1 (fun q => by injection q with q; exact tb_ne _ q))
  · exact k2 f _ q1 (ne_at q1 bb1 (by simp)) (ne_at q1 jj1 (by simp))
  · exact k2 m _ q2 (ne_at q2 bb1 (by simp)) (ne_at q2 jj1 (by simp))
  · exact k2 m3 _ alm1 (ne_at alm1 bb1 (by simp)) (ne_at alm1 jj1 (by simp))
  · exact k2 _ _ (q3 e he) (ne_at (q3 e he) bb1 (by simp)) (ne_at (q3 e he) jj1 (by simp))
  · have hkj : k ≠ j := by
      cases hq : H[k]? with
      | none => rw [List.getElem?_eq_none_iff] at hq; omega
      | some o => exact jne k o hq fun v z => h5 v (by rw [hq, z])
    rw [r5.kept k (by omega) (by rintro (q | q); exact h2 q; exact hkj q), q5.kept k (by omega) (by rintro (q | q); exact h3 q; exact h4 q), gk k h1 h2 hkj]
  · obtain ⟨o1, o2, o3, o4⟩ := hLo
    have hLj : L ≤ j := by
      rcases gab with q | q
      · cases a with
        | none => cases q
        | some ad =>
          have e : ad.block = j := by simpa [ab] using q
          rw [← e]
          exact o4 _ _ _ ad _ _ hb rfl
      · omega
    refine ⟨⟨o1, o2, o3, fun cs e o a' l' c2 h1 h2 => ?_⟩, fun k hk => ?_⟩
    · rw [r3] at h1
      have h1 := Option.some.inj h1
      injection h1 with h1
      rw [← h1] at h2
      have h2 : (Value.slice (some ⟨j, 0, none⟩) 0 (unk + 1)) = .slice (some a') l' c2 := Option.some.inj h2
      injection h2 with h2
      rw [← Option.some.inj h2]; exact hLj
    · rw [r5.kept k (by omega) (by rintro (q | q) <;> omega), q5.kept k (by omega) (by rintro (q | q) <;> omega), gk k (by omega) (by omega) (by omega)]
/-- A port that is free is listened at, under the least number. -/
theorem ask_new (hB : Bx b t f m m2 m3 E H) (tag p now : Int) (h1 : 1 ≤ p) (h2 : p ≤ 65535) (hu : fi En.port p E = none) {k : Nat} (hn : Least E k) (h64 : k < 64) :
    ∃ E' r H2, (∃ L, E' = E ++ [⟨k, L, p⟩]) ∧ F19 [.pointer (some ⟨b, 0, none⟩), .agg #[.int .i64 tag, .int .i64 1, .int .i64 0, .int .i64 0, .int .i64 p, .int .i64 0, .string (⟨#[]⟩ : ByteArray)], .int .i64 now] H = some (.tuple #[.slice (some ⟨r, 0, none⟩) 1 unk, .slice none 0 0], H2) ∧ H2[r]? = some (.cells (DC tag 0 k 0 (⟨#[]⟩ : ByteArray)) 5 true) ∧ Bx b t f m m2 m3 E' H2 ∧ Fr b f m H H2 ∧ H.length ≤ r ∧ ∀ L, Lo L b f m H → L ≤ H.length → Lo L b f m H2 ∧ ∀ k, k < L → H2[k]? = H[k]? := by
  refine ask_fin hB tag 1 0 p now (by omega) (by omega) (fun E' => ∃ L, E' = E ++ [⟨k, L, p⟩]) 0 k 0 (fun E' hE => ?_) fun W ws ov nv G hl hb hPt hW => ?_
  · obtain ⟨L, rfl⟩ := hE
    rw [List.map_append, List.map_append]
    refine ⟨List.nodup_append.2 ⟨hB.ndf, by simp, fun x hx y hy => ?_⟩, List.nodup_append.2 ⟨hB.ndp, by simp, fun x hx y hy => ?_⟩⟩
    · obtain ⟨e, he, rfl⟩ := List.mem_map.1 hx
      have hy' : y = ((k : Nat) : Int) := by simpa using hy
      rw [hy']
      exact fun q => (fi_none _).1 hn.1 e he q.symm
    · obtain ⟨e, he, rfl⟩ := List.mem_map.1 hx
      have hy' : y = p := by simpa using hy
      rw [hy']
      exact fun q => (fi_none _).1 hu e he q.symm
  · obtain ⟨H', e, q1, q2, q3, q4, q5⟩ := turn_new hb hPt.tab hPt.fds hPt.lst hB.fm hW h1 h2 hu hn h64
    refine ⟨_, H', _, ⟨G.length, rfl⟩, e, q1, q2, fun x hx => ?_, q4, q5⟩
    rcases List.mem_append.1 hx with hx | hx
    · exact q5.at_ (hPt.prt x hx) (by rintro (q | q); exact ne_at (hPt.prt x hx) hPt.fds (by simp) q; exact ne_at (hPt.prt x hx) hPt.lst (by simp) q)
    · have : x = ⟨k, G.length, p⟩ := by simpa using hx
      rw [this]; exact q3
theorem ask_used (hB : Bx b t f m m2 m3 E H) (tag p now : Int) (h1 : 1 ≤ p) (h2 : p ≤ 65535) (hu : (fi En.port p E).isSome = true) {k : Nat} (hn : Least E k) (h64 : k < 64) :
    ∃ E' r H2, (E' = E) ∧ F19 [.pointer (some ⟨b, 0, none⟩), .agg #[.int .i64 tag, .int .i64 1, .int .i64 0, .int .i64 0, .int .i64 p, .int .i64 0, .string (⟨#[]⟩ : ByteArray)], .int .i64 now] H = some (.tuple #[.slice (some ⟨r, 0, none⟩) 1 unk, .slice none 0 0], H2) ∧ H2[r]? = some (.cells (DC tag 190 0 0 (⟨#[]⟩ : ByteArray)) 5 true) ∧ Bx b t f m m2 m3 E' H2 ∧ Fr b f m H H2 ∧ H.length ≤ r ∧ ∀ L, Lo L b f m H → L ≤ H.length → Lo L b f m H2 ∧ ∀ k, k < L → H2[k]? = H[k]? := by
  refine ask_fin hB tag 1 0 p now (by omega) (by omega) (fun E' => E' = E) 190 0 0 (fun E' hE => by rw [hE]; exact ⟨hB.ndf, hB.ndp⟩) fun W ws ov nv G hl hb hPt hW => ?_
  have e := turn_used hb hPt.tab hPt.fds hPt.lst hW h1 h2 hu hn h64
  exact ⟨E, _, _, rfl, e, at_push hPt.fds _, at_push hPt.lst _, fun x hx => at_push (hPt.prt x hx) _, by simp, Ch.push _ _ _⟩
theorem ask_none (hB : Bx b t f m m2 m3 E H) (tag fd now : Int) (hu : fi En.fd fd E = none) :
    ∃ E' r H2, (E' = E) ∧ F19 [.pointer (some ⟨b, 0, none⟩), .agg #[.int .i64 tag, .int .i64 7, .int .i64 fd, .int .i64 0, .int .i64 0, .int .i64 0, .string (⟨#[]⟩ : ByteArray)], .int .i64 now] H = some (.tuple #[.slice (some ⟨r, 0, none⟩) 1 unk, .slice none 0 0], H2) ∧ H2[r]? = some (.cells (DC tag 5 0 0 (⟨#[]⟩ : ByteArray)) 5 true) ∧ Bx b t f m m2 m3 E' H2 ∧ Fr b f m H H2 ∧ H.length ≤ r ∧ ∀ L, Lo L b f m H → L ≤ H.length → Lo L b f m H2 ∧ ∀ k, k < L → H2[k]? = H[k]? := by
  refine ask_fin hB tag 7 fd 0 now (by omega) (by omega) (fun E' => E' = E) 5 0 0 (fun E' hE => by rw [hE]; exact ⟨hB.ndf, hB.ndp⟩) fun W ws ov nv G hl hb hPt hW => ?_
  have e := turn_none hb hPt.fds hW hu
  exact ⟨E, _, _, rfl, e, at_push hPt.fds _, at_push hPt.lst _, fun x hx => at_push (hPt.prt x hx) _, by simp, Ch.push _ _ _⟩
theorem rm_sub (e : En) (E : List En) : (rmE e E).Sublist E := List.filter_sublist
theorem ask_close (hB : Bx b t f m m2 m3 E H) (tag fd now : Int) {e : En} (hu : fi En.fd fd E = some e) :
    ∃ E' r H2, (E' = rmE e E) ∧ F19 [.pointer (some ⟨b, 0, none⟩), .agg #[.int .i64 tag, .int .i64 7, .int .i64 fd, .int .i64 0, .int .i64 0, .int .i64 0, .string (⟨#[]⟩ : ByteArray)], .int .i64 now] H = some (.tuple #[.slice (some ⟨r, 0, none⟩) 1 unk, .slice none 0 0], H2) ∧ H2[r]? = some (.cells (DC tag 0 0 0 (⟨#[]⟩ : ByteArray)) 5 true) ∧ Bx b t f m m2 m3 E' H2 ∧ Fr b f m H H2 ∧ H.length ≤ r ∧ ∀ L, Lo L b f m H → L ≤ H.length → Lo L b f m H2 ∧ ∀ k, k < L → H2[k]? = H[k]? := by
  refine ask_fin hB tag 7 fd 0 now (by omega) (by omega) (fun E' => E' = rmE e E) 0 0 0 (fun E' hE => by rw [hE]; exact ⟨hB.ndf.sublist ((rm_sub e E).map _), hB.ndp.sublist ((rm_sub e E).map _)⟩) fun W ws ov nv G hl hb hPt hW => ?_
  have heE := (fi_some _ hu).1
  obtain ⟨H', D, e1, q1, q2, q3, q4⟩ := turn_close hb hPt.tab hPt.fds hPt.lst hPt.alm hB.fm hB.mm3 hB.ndf hB.ndp hW hu (hPt.prt e heE)
  refine ⟨_, H', D, rfl, e1, q1, q2, fun x hx => ?_, q3, q4⟩
  have hxE := (rm_sub e E).subset hx
  exact q4.at_ (hPt.prt x hxE) (by rintro (q | q); exact ne_at (hPt.prt x hxE) hPt.fds (by simp) q; exact ne_at (hPt.prt x hxE) hPt.lst (by simp) q)
end
end Go.Proofs.YtlpeldimmaajkaaGreat
