/- EventBack: numbers of bytes, there and back; the first event of bytes, in plain words. -/
import Derived.Test.YticchkdbanhjfaaEl9
import Derived.Test.YticchkdbanhjfaaT7
set_option linter.unusedVariables false
set_option linter.unusedSimpArgs false
namespace Go.Proofs.Yticchkdbanhjfaa
open Go Go.RowKit Go.Proofs.Yticchkdbanhjfaa.Fw
theorem be_succ (n v : Nat) : be (n + 1) v = be n (v / 256) ++ [UInt8.ofNat v] := by
  unfold be
  rw [List.range_succ, List.map_append]
  congr 1
  · apply List.map_congr_left
    intro i hi
    have hi : i < n := List.mem_range.1 hi
    unfold by8
    rw [show n + 1 - 1 - i = (n - 1 - i) + 1 by omega, Nat.pow_succ, Nat.mul_comm, Nat.div_div_eq_div_mul]
  · simp [by8]
theorem numL_be : ∀ (n v : Nat), v < 256 ^ n → numL (be n v) = v
  | 0, v, h => by simp at h; subst h; rfl
  | n + 1, v, h => by
    rw [be_succ, numL_snoc, numL_be n (v / 256) (by rw [Nat.pow_succ] at h; omega), UInt8.toNat_ofNat']
    omega
theorem be_numL (l : List UInt8) : be l.length (numL l) = l := by
  have : ∀ n, n ≤ l.length → be n (numL (l.take n)) = l.take n := by
    intro n
    induction n with
    | zero => intro _; rfl
    | succ n ih =>
      intro hn
      have hb : l[n]? = some l[n] := by simp
      have hlt := l[n].toNat_lt
      rw [numL_take hb, be_succ, List.take_add_one, hb]
      have e1 : (numL (l.take n) * 256 + l[n].toNat) / 256 = numL (l.take n) := by omega
      have e2 : UInt8.ofNat (numL (l.take n) * 256 + l[n].toNat) = l[n] := by
        apply UInt8.toNat.inj
        rw [UInt8.toNat_ofNat']; omega
      rw [e1, ih (by omega), e2]; rfl
  have := this l.length (Nat.le_refl _)
  rwa [List.take_length] at this
theorem take_step (l : List UInt8) (i j : Nat) : l.take i ++ (l.drop i).take j = l.take (i + j) := List.take_add.symm
def num (l : List UInt8) (o n : Nat) : Nat := numL ((l.drop o).take n)
/-- The event at the beginning of bytes. -/
def evOf (l : List UInt8) : Ev := ⟨num l 0 1, num l 1 6, (l.drop 9).take (num l 7 2)⟩
def firstM (l : List UInt8) : Option (Ev × List UInt8) :=
  if 9 ≤ l.length ∧ num l 7 2 ≤ l.length - 9 ∧ ok (evOf l) = true then some (evOf l, l.drop (9 + num l 7 2)) else none
theorem first_enc {e : Ev} (h : ok e = true) (r : List UInt8) : firstM (enc e ++ r) = some (e, r) := by
  obtain ⟨K, N, s, rfl, hK, hN, hs, _⟩ := ok_parts h
  have el : enc ⟨(K : Int), (N : Int), s⟩ = be 1 K ++ (be 6 N ++ (be 2 s.length ++ s)) := by simp [enc]
  have d1 : ((enc ⟨(K : Int), (N : Int), s⟩ ++ r).drop 0).take 1 = be 1 K := by
    rw [el, List.drop_zero, List.append_assoc]; exact List.take_left' (be_len _ _)
  have d2 : ((enc ⟨(K : Int), (N : Int), s⟩ ++ r).drop 1).take 6 = be 6 N := by
    rw [el, List.append_assoc, List.drop_left' (be_len _ _), List.append_assoc]; exact List.take_left' (be_len _ _)
  have e7 : (enc ⟨(K : Int), (N : Int), s⟩ ++ r) = (be 1 K ++ be 6 N) ++ (be 2 s.length ++ (s ++ r)) := by rw [el]; simp
  have d3 : ((enc ⟨(K : Int), (N : Int), s⟩ ++ r).drop 7).take 2 = be 2 s.length := by
    rw [e7, List.drop_left' (by simp [be_len])]; exact List.take_left' (be_len _ _)
  have e9 : (enc ⟨(K : Int), (N : Int), s⟩ ++ r) = (be 1 K ++ be 6 N ++ be 2 s.length) ++ (s ++ r) := by rw [el]; simp
  have n1 : num (enc ⟨(K : Int), (N : Int), s⟩ ++ r) 0 1 = K := by unfold num; rw [d1, numL_be _ _ hK]
  have n2 : num (enc ⟨(K : Int), (N : Int), s⟩ ++ r) 1 6 = N := by unfold num; rw [d2, numL_be _ _ hN]
  have n3 : num (enc ⟨(K : Int), (N : Int), s⟩ ++ r) 7 2 = s.length := by unfold num; rw [d3, numL_be _ _ hs]
  have d4 : ((enc ⟨(K : Int), (N : Int), s⟩ ++ r).drop 9).take s.length = s := by
    rw [e9, List.drop_left' (by simp [be_len])]; exact List.take_left' rfl
  have d5 : (enc ⟨(K : Int), (N : Int), s⟩ ++ r).drop (9 + s.length) = r := by
    rw [show enc ⟨(K : Int), (N : Int), s⟩ ++ r = (be 1 K ++ be 6 N ++ be 2 s.length ++ s) ++ r by rw [el]; simp]
    exact List.drop_left' (by simp [be_len]; omega)
  have ev : evOf (enc ⟨(K : Int), (N : Int), s⟩ ++ r) = ⟨(K : Int), (N : Int), s⟩ := by
    unfold evOf; rw [n1, n2, n3, d4]
  unfold firstM
  have hl : (enc ⟨(K : Int), (N : Int), s⟩ ++ r).length = 9 + s.length + r.length := by rw [List.length_append, enc_len]
  rw [n3, ev, d5, if_pos ⟨by omega, by omega, h⟩]
theorem enc_first {l : List UInt8} {e : Ev} {r : List UInt8} (h : firstM l = some (e, r)) : enc e ++ r = l ∧ ok e = true := by
  unfold firstM at h
  split at h
  · rename_i hh
    obtain ⟨h1, h2, h3⟩ := hh
    obtain ⟨rfl, rfl⟩ := Prod.mk.inj (Option.some.inj h)
    refine ⟨?_, h3⟩
    have hs : ((l.drop 9).take (num l 7 2)).length = num l 7 2 := by rw [List.length_take, List.length_drop]; omega
    have p : ∀ o n, o + n ≤ l.length → be n (num l o n) = (l.drop o).take n := fun o n hn => by
      have := be_numL ((l.drop o).take n)
      rwa [show ((l.drop o).take n).length = n by rw [List.length_take, List.length_drop]; omega] at this
    unfold enc evOf
    simp only [Int.toNat_natCast]
    rw [hs, p 0 1 (by omega), p 1 6 (by omega), p 7 2 (by omega), List.drop_zero, take_step l 1 6, take_step l 7 2, take_step l 9 (num l 7 2)]
    exact List.take_append_drop _ _
  · cases h
end Go.Proofs.Yticchkdbanhjfaa
