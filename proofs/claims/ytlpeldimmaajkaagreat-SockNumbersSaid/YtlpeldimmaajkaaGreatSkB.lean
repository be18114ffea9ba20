/- r3: SockNumbers: what is known between two acts. -/
import Derived.Test.YtlpeldimmaajkaaGreatSkA
set_option linter.unusedVariables false
set_option linter.unusedSimpArgs false
namespace Go.Proofs.YtlpeldimmaajkaaGreat
open Go Go.RowKit Go.Lib Go.Proofs.YtlpeldimmaajkaaGreat.Fw
/-- A map whose values are replaced. -/
def ups (x : Int) (v : Bool) : List (Int × Bool) → List (Int × Bool)
  | [] => [(x, v)]
  | (y, w) :: r => if x = y then (x, v) :: r else (y, w) :: ups x v r
def usV (u : Int × Bool) : Value := .bool u.2
theorem mset_ups (x : Int) (v : Bool) : ∀ U : List (Int × Bool), mset (.int .i64 x) (.bool v) (mp Prod.fst usV U) = mp Prod.fst usV (ups x v U)
  | [] => rfl
  | (y, w) :: r => by
    have ih := mset_ups x v r
    unfold ups
    by_cases h : x = y
    · rw [if_pos h]
      simp [mp, mset, keyEq, h, usV]
    · rw [if_neg h]
      simp only [mp, List.map_cons, mset, keyEq, beq_iff_eq, h, if_false] at ih ⊢
      rw [ih]
theorem fi_ups (x : Int) (v : Bool) : ∀ U : List (Int × Bool), fi Prod.fst x (ups x v U) = some (x, v)
  | [] => by simp [ups, fi]
  | (y, w) :: r => by
    have ih := fi_ups x v r
    unfold ups
    by_cases h : x = y
    · rw [if_pos h]; simp [fi]
    · rw [if_neg h]
      simp only [fi, List.find?_cons, h, decide_false] at ih ⊢
      exact ih
theorem fi_ups_ne {x z : Int} (v : Bool) (hz : z ≠ x) : ∀ U : List (Int × Bool), fi Prod.fst z (ups x v U) = fi Prod.fst z U
  | [] => by simp [ups, fi, hz]
  | (y, w) :: r => by
    have ih := fi_ups_ne (x := x) v hz r
    unfold ups
    by_cases h : x = y
    · rw [if_pos h]
      subst h
      simp [fi, List.find?_cons, hz]
    · rw [if_neg h]
      simp only [fi, List.find?_cons] at ih ⊢
      rw [ih]
def poV (e : En) : Value := .int .i64 e.port
/-- Between two acts. -/
structure Li (b t f m m2 m3 pb ub L : Nat) (E : List En) (U : List (Int × Bool)) (i : Nat) (H0 H : Heap) : Prop where
  bx : Bx b t f m m2 m3 E H
  lo : Lo L b f m H
  kept : ∀ k, k < L → H[k]? = H0[k]?
  ll : L ≤ H.length
  pl : L ≤ pb
  ul : L ≤ ub
  pf : pb ≠ f
  pm : pb ≠ m
  uf : ub ≠ f
  um : ub ≠ m
  pu : pb ≠ ub
  p3 : pb ≠ m3
  u3 : ub ≠ m3
  po : H[pb]? = some (.map (mp En.fd poV E))
  us : H[ub]? = some (.map (mp Prod.fst usV U))
  uok : ∀ x : Int, 0 ≤ x → x < 6 → ((fi Prod.fst x U).map Prod.snd).getD false = (fi En.port (100 + x) E).isSome
  eok : ∀ e ∈ E, 100 ≤ e.port ∧ e.port < 106 ∧ 0 ≤ e.fd ∧ e.fd < 64
  len : E.length ≤ i
section
variable {b t f m m2 m3 pb ub L i : Nat} {E : List En} {U : List (Int × Bool)} {H0 H H' : Heap}
theorem Bx.ch (h : Bx b t f m m2 m3 E H) (c : Ch (fun _ => False) H H') : Bx b t f m m2 m3 E H' := by
  obtain ⟨⟨a, cc, now, hb, hws⟩, pt, x1, x2, x3, x4, x5⟩ := h
  refine ⟨⟨a, cc, now, c.at_ hb id, ?_⟩, ⟨c.at_ pt.tab id, c.at_ pt.fds id, c.at_ pt.lst id, c.at_ pt.alm id, fun e he => c.at_ (pt.prt e he) id⟩, x1, x2, x3, x4, x5⟩
  rcases hws with h | ⟨j, v, h1, h2, h3⟩
  · exact .inl h
  · exact .inr ⟨j, v, h1, h2, c.at_ h3 id⟩
/-- The law's own maps are set. -/
theorem Bx.sets (h : Bx b t f m m2 m3 E H) (c : Ch (fun k => k = pb ∨ k = ub) H H') {x y : List (Value × Value)} (hp : H[pb]? = some (.map x)) (hu : H[ub]? = some (.map y)) (p1 : pb ≠ f) (p2 : pb ≠ m) (p3 : pb ≠ m3) (u1 : ub ≠ f) (u2 : ub ≠ m) (u3 : ub ≠ m3) : Bx b t f m m2 m3 E H' := by
  obtain ⟨⟨a, cc, now, hb, hws⟩, pt, x1, x2, x3, x4, x5⟩ := h
  have ce : ∀ {k : Nat} {cs : List Value} {e : Nat} {o : Bool}, H[k]? = some (AObj.cells cs e o) → H'[k]? = some (AObj.cells cs e o) := fun {k cs e o} hk => c.at_ hk (by rintro (q | q); exact ne_at hk hp (by simp) q; exact ne_at hk hu (by simp) q)
  refine ⟨⟨a, cc, now, ce hb, ?_⟩, ⟨ce pt.tab, c.at_ pt.fds (by rintro (q | q); exact p1 q.symm; exact u1 q.symm), c.at_ pt.lst (by rintro (q | q); exact p2 q.symm; exact u2 q.symm), c.at_ pt.alm (by rintro (q | q); exact p3 q.symm; exact u3 q.symm), fun e he => ce (pt.prt e he)⟩, x1, x2, x3, x4, x5⟩
  rcases hws with h | ⟨j, v, h1, h2, h3⟩
  · exact .inl h
  · exact .inr ⟨j, v, h1, h2, ce h3⟩
theorem Li.end28 (h : Li b t f m m2 m3 pb ub L E U i H0 H) (hi : i ≤ 1000) (k : Nat) : ∃ H', R3 (k + 1) td3_28 [.pointer (some ⟨b, 0, none⟩), .map (some pb)] H = some (.bool true, H') := by
  obtain ⟨a, c, H1, e20, c20⟩ := fds20 h.bx (fun e he => (h.eok e he).2.2) (by have := h.len; omega)
  have po1 := c20.at_ h.po id
  refine ⟨H1, ?_⟩
  rw [c3_28]
  simp only [↓on_of e20, ↓onS, ↓kInt_int, ↓kInt_u8, ↓kBool_bool, ↓kStr_str, ↓kTup_tup, ↓kPtr_ptr, ↓kSl_sl, ↓kAgg_agg, ↓kMp_mp, ↓ldmo_at po1]
  rw [show (((E.length : Nat) : Int) == ((mp En.fd poV E).length : Int)) = true by simp [mp]]
  simp only [↓on_of (waiting21 (h.bx.ch c20)), ↓onS, ↓kInt_int, ↓kInt_u8, ↓kBool_bool, ↓kStr_str, ↓kTup_tup, ↓kPtr_ptr, ↓kSl_sl, ↓kAgg_agg, ↓kMp_mp]
  rfl
/-- The maps of the law, behind a call of the box. -/
theorem Li.maps (h : Li b t f m m2 m3 pb ub L E U i H0 H) (fr : Fr b f m H H') : H'[pb]? = some (.map (mp En.fd poV E)) ∧ H'[ub]? = some (.map (mp Prod.fst usV U)) := by
  obtain ⟨a, c, now, hb, _⟩ := h.bx.box
  exact ⟨(fr.kept pb (lt_of_at h.po) (ne_at h.po hb (by simp)) h.pf h.pm (fun v q => by rw [h.po] at q; cases q)).trans h.po, (fr.kept ub (lt_of_at h.us) (ne_at h.us hb (by simp)) h.uf h.um (fun v q => by rw [h.us] at q; cases q)).trans h.us⟩
end
end Go.Proofs.YtlpeldimmaajkaaGreat
