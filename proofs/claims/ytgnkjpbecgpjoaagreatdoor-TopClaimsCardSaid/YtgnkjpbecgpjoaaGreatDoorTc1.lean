/- r4a: TopClaims: the chain of its states. PRINTED by a program of the session. Conditions: none. -/
import Derived.Test.YtgnkjpbecgpjoaaGreatDoorTr0
import Derived.Test.YtgnkjpbecgpjoaaGreatDoorTr1
import Derived.Test.YtgnkjpbecgpjoaaGreatDoorTr2
import Derived.Test.YtgnkjpbecgpjoaaGreatDoorTr3
import Derived.Test.YtgnkjpbecgpjoaaGreatDoorTr4
import Derived.Test.YtgnkjpbecgpjoaaGreatDoorTr5
set_option linter.unusedVariables false
set_option linter.unusedSimpArgs false
namespace Go.Proofs.YtgnkjpbecgpjoaaGreatDoor
open Go Go.Proofs.YtgnkjpbecgpjoaaGreatDoor.Fw Go.RowKit
section
variable {fr : Frs} {l c : Nat}

theorem tcC0_0 (hF : F9 fr) (h : G fr l c 100021 (hd 1) S1) : G fr l c 24 (a24 0 0) S0 :=
  (r0_0_24.go hF (r0_0_36.go hF (r0_0_h0.go hF (r0_0_t0.go hF (r0_0_h1.go hF (r0_0_t1.go hF (r0_0_h2.go hF (r0_0_t2.go hF (r0_0_e.go hF h)))))))))
theorem tcC0_1 (hF : F9 fr) (h : G fr l c 100021 (hd 1) S1) : G fr l c 24 (a24 1 0) S0 :=
  (r0_1_24.go hF (r0_1_36.go hF (r0_1_h0.go hF (r0_1_t0.go hF (r0_1_h1.go hF (r0_1_t1.go hF (r0_1_h2.go hF (r0_1_t2.go hF (r0_1_e.go hF h)))))))))
theorem tcC0_2 (hF : F9 fr) (h : G fr l c 100021 (hd 1) S1) : G fr l c 24 (a24 2 0) S0 :=
  (r0_2_24.go hF (r0_2_36.go hF (r0_2_h0.go hF (r0_2_t0.go hF (r0_2_h1.go hF (r0_2_t1.go hF (r0_2_h2.go hF (r0_2_t2.go hF (r0_2_e.go hF h)))))))))
theorem tcO1_0 (hF : F9 fr) (h : G fr l c 46 (a38 0 1 0) E1_0_1) : G fr l c 100038 (a38 0 1 0) E1_0_0 :=
  known (b := 74) (j := 17) (i := 25) (x := 4) (lo := 0) (hi := 1) (li := [0]) hF (by kernel_rfl) (fun s0 => by kernel_rfl) fun n h1 h2 => by
    have : n = 0 ∨ n = 1 := by omega
    rcases this with rfl | rfl
    · exact ⟨wk9 0, _, rfl, rfl, by kernel_rfl, r1_0_h0_0.go hF h⟩
    · exact ⟨wk9 1, _, rfl, rfl, by kernel_rfl, r1_0_h0_1.go hF h⟩
theorem tcC1_0 (hF : F9 fr) (h : G fr l c 100021 (hd 2) S2) : G fr l c 24 (a24 0 1) S1 :=
  (r1_0_24.go hF (r1_0_36.go hF (tcO1_0 hF (r1_0_t0.go hF (r1_0_h1.go hF (r1_0_t1.go hF (r1_0_h2.go hF (r1_0_t2.go hF (r1_0_e.go hF h)))))))))
theorem tcO1_1 (hF : F9 fr) (h : G fr l c 46 (a38 1 1 1) E1_1_2) : G fr l c 100038 (a38 1 1 1) E1_1_1 :=
  known (b := 75) (j := 18) (i := 25) (x := 4) (lo := 0) (hi := 1) (li := [1]) hF (by kernel_rfl) (fun s0 => by kernel_rfl) fun n h1 h2 => by
    have : n = 0 ∨ n = 1 := by omega
    rcases this with rfl | rfl
    · exact ⟨wk10 0, _, rfl, rfl, by kernel_rfl, r1_1_h1_0.go hF h⟩
    · exact ⟨wk10 1, _, rfl, rfl, by kernel_rfl, r1_1_h1_1.go hF h⟩
theorem tcC1_1 (hF : F9 fr) (h : G fr l c 100021 (hd 2) S2) : G fr l c 24 (a24 1 1) S1 :=
  (r1_1_24.go hF (r1_1_36.go hF (r1_1_h0.go hF (r1_1_t0.go hF (tcO1_1 hF (r1_1_t1.go hF (r1_1_h2.go hF (r1_1_t2.go hF (r1_1_e.go hF h)))))))))
theorem tcO1_2 (hF : F9 fr) (h : G fr l c 46 (a38 2 1 2) E1_2_3) : G fr l c 100038 (a38 2 1 2) E1_2_2 :=
  known (b := 76) (j := 19) (i := 25) (x := 4) (lo := 0) (hi := 1) (li := [2]) hF (by kernel_rfl) (fun s0 => by kernel_rfl) fun n h1 h2 => by
    have : n = 0 ∨ n = 1 := by omega
    rcases this with rfl | rfl
    · exact ⟨wk11 0, _, rfl, rfl, by kernel_rfl, r1_2_h2_0.go hF h⟩
    · exact ⟨wk11 1, _, rfl, rfl, by kernel_rfl, r1_2_h2_1.go hF h⟩
theorem tcC1_2 (hF : F9 fr) (h : G fr l c 100021 (hd 2) S2) : G fr l c 24 (a24 2 1) S1 :=
  (r1_2_24.go hF (r1_2_36.go hF (r1_2_h0.go hF (r1_2_t0.go hF (r1_2_h1.go hF (r1_2_t1.go hF (tcO1_2 hF (r1_2_t2.go hF (r1_2_e.go hF h)))))))))
theorem tcO2_0 (hF : F9 fr) (h : G fr l c 46 (a38 0 2 0) E2_0_1) : G fr l c 100038 (a38 0 2 0) E2_0_0 :=
  known (b := 74) (j := 17) (i := 25) (x := 4) (lo := 0) (hi := 2) (li := [0]) hF (by kernel_rfl) (fun s0 => by kernel_rfl) fun n h1 h2 => by
    have : n = 0 ∨ n = 1 ∨ n = 2 := by omega
    rcases this with rfl | rfl | rfl
    · exact ⟨wk9 0, _, rfl, rfl, by kernel_rfl, r2_0_h0_0.go hF h⟩
    · exact ⟨wk9 1, _, rfl, rfl, by kernel_rfl, r2_0_h0_1.go hF h⟩
    · exact ⟨wk9 2, _, rfl, rfl, by kernel_rfl, r2_0_h0_2.go hF h⟩
theorem tcC2_0 (hF : F9 fr) (h : G fr l c 100021 (hd 3) S3) : G fr l c 24 (a24 0 2) S2 :=
  (r2_0_24.go hF (r2_0_36.go hF (tcO2_0 hF (r2_0_t0.go hF (r2_0_h1.go hF (r2_0_t1.go hF (r2_0_h2.go hF (r2_0_t2.go hF (r2_0_e.go hF h)))))))))
theorem tcO2_1 (hF : F9 fr) (h : G fr l c 46 (a38 1 2 1) E2_1_2) : G fr l c 100038 (a38 1 2 1) E2_1_1 :=
  known (b := 75) (j := 18) (i := 25) (x := 4) (lo := 0) (hi := 2) (li := [1]) hF (by kernel_rfl) (fun s0 => by kernel_rfl) fun n h1 h2 => by
    have : n = 0 ∨ n = 1 ∨ n = 2 := by omega
    rcases this with rfl | rfl | rfl
    · exact ⟨wk10 0, _, rfl, rfl, by kernel_rfl, r2_1_h1_0.go hF h⟩
    · exact ⟨wk10 1, _, rfl, rfl, by kernel_rfl, r2_1_h1_1.go hF h⟩
    · exact ⟨wk10 2, _, rfl, rfl, by kernel_rfl, r2_1_h1_2.go hF h⟩
theorem tcC2_1 (hF : F9 fr) (h : G fr l c 100021 (hd 3) S3) : G fr l c 24 (a24 1 2) S2 :=
  (r2_1_24.go hF (r2_1_36.go hF (r2_1_h0.go hF (r2_1_t0.go hF (tcO2_1 hF (r2_1_t1.go hF (r2_1_h2.go hF (r2_1_t2.go hF (r2_1_e.go hF h)))))))))
theorem tcO2_2 (hF : F9 fr) (h : G fr l c 46 (a38 2 2 2) E2_2_3) : G fr l c 100038 (a38 2 2 2) E2_2_2 :=
  known (b := 76) (j := 19) (i := 25) (x := 4) (lo := 0) (hi := 2) (li := [2]) hF (by kernel_rfl) (fun s0 => by kernel_rfl) fun n h1 h2 => by
    have : n = 0 ∨ n = 1 ∨ n = 2 := by omega
    rcases this with rfl | rfl | rfl
    · exact ⟨wk11 0, _, rfl, rfl, by kernel_rfl, r2_2_h2_0.go hF h⟩
    · exact ⟨wk11 1, _, rfl, rfl, by kernel_rfl, r2_2_h2_1.go hF h⟩
    · exact ⟨wk11 2, _, rfl, rfl, by kernel_rfl, r2_2_h2_2.go hF h⟩
theorem tcC2_2 (hF : F9 fr) (h : G fr l c 100021 (hd 3) S3) : G fr l c 24 (a24 2 2) S2 :=
  (r2_2_24.go hF (r2_2_36.go hF (r2_2_h0.go hF (r2_2_t0.go hF (r2_2_h1.go hF (r2_2_t1.go hF (tcO2_2 hF (r2_2_t2.go hF (r2_2_e.go hF h)))))))))
theorem tcO3_0 (hF : F9 fr) (h : G fr l c 46 (a38 0 3 0) E3_0_1) : G fr l c 100038 (a38 0 3 0) E3_0_0 :=
  known (b := 74) (j := 17) (i := 25) (x := 4) (lo := 0) (hi := 3) (li := [0]) hF (by kernel_rfl) (fun s0 => by kernel_rfl) fun n h1 h2 => by
    have : n = 0 ∨ n = 1 ∨ n = 2 ∨ n = 3 := by omega
    rcases this with rfl | rfl | rfl | rfl
    · exact ⟨wk9 0, _, rfl, rfl, by kernel_rfl, r3_0_h0_0.go hF h⟩
    · exact ⟨wk9 1, _, rfl, rfl, by kernel_rfl, r3_0_h0_1.go hF h⟩
    · exact ⟨wk9 2, _, rfl, rfl, by kernel_rfl, r3_0_h0_2.go hF h⟩
    · exact ⟨wk9 3, _, rfl, rfl, by kernel_rfl, r3_0_h0_3.go hF h⟩
theorem tcC3_0 (hF : F9 fr) (h : G fr l c 100021 (hd 4) S4) : G fr l c 24 (a24 0 3) S3 :=
  (r3_0_24.go hF (r3_0_36.go hF (tcO3_0 hF (r3_0_t0.go hF (r3_0_h1.go hF (r3_0_t1.go hF (r3_0_h2.go hF (r3_0_t2.go hF (r3_0_e.go hF h)))))))))
theorem tcO3_1 (hF : F9 fr) (h : G fr l c 46 (a38 1 3 1) E3_1_2) : G fr l c 100038 (a38 1 3 1) E3_1_1 :=
  known (b := 75) (j := 18) (i := 25) (x := 4) (lo := 0) (hi := 3) (li := [1]) hF (by kernel_rfl) (fun s0 => by kernel_rfl) fun n h1 h2 => by
    have : n = 0 ∨ n = 1 ∨ n = 2 ∨ n = 3 := by omega
    rcases this with rfl | rfl | rfl | rfl
    · exact ⟨wk10 0, _, rfl, rfl, by kernel_rfl, r3_1_h1_0.go hF h⟩
    · exact ⟨wk10 1, _, rfl, rfl, by kernel_rfl, r3_1_h1_1.go hF h⟩
    · exact ⟨wk10 2, _, rfl, rfl, by kernel_rfl, r3_1_h1_2.go hF h⟩
    · exact ⟨wk10 3, _, rfl, rfl, by kernel_rfl, r3_1_h1_3.go hF h⟩
theorem tcC3_1 (hF : F9 fr) (h : G fr l c 100021 (hd 4) S4) : G fr l c 24 (a24 1 3) S3 :=
  (r3_1_24.go hF (r3_1_36.go hF (r3_1_h0.go hF (r3_1_t0.go hF (tcO3_1 hF (r3_1_t1.go hF (r3_1_h2.go hF (r3_1_t2.go hF (r3_1_e.go hF h)))))))))
theorem tcO3_2 (hF : F9 fr) (h : G fr l c 46 (a38 2 3 2) E3_2_3) : G fr l c 100038 (a38 2 3 2) E3_2_2 :=
  known (b := 76) (j := 19) (i := 25) (x := 4) (lo := 0) (hi := 3) (li := [2]) hF (by kernel_rfl) (fun s0 => by kernel_rfl) fun n h1 h2 => by
    have : n = 0 ∨ n = 1 ∨ n = 2 ∨ n = 3 := by omega
    rcases this with rfl | rfl | rfl | rfl
    · exact ⟨wk11 0, _, rfl, rfl, by kernel_rfl, r3_2_h2_0.go hF h⟩
    · exact ⟨wk11 1, _, rfl, rfl, by kernel_rfl, r3_2_h2_1.go hF h⟩
    · exact ⟨wk11 2, _, rfl, rfl, by kernel_rfl, r3_2_h2_2.go hF h⟩
    · exact ⟨wk11 3, _, rfl, rfl, by kernel_rfl, r3_2_h2_3.go hF h⟩
theorem tcC3_2 (hF : F9 fr) (h : G fr l c 100021 (hd 4) S4) : G fr l c 24 (a24 2 3) S3 :=
  (r3_2_24.go hF (r3_2_36.go hF (r3_2_h0.go hF (r3_2_t0.go hF (r3_2_h1.go hF (r3_2_t1.go hF (tcO3_2 hF (r3_2_t2.go hF (r3_2_e.go hF h)))))))))
theorem tcO4_0 (hF : F9 fr) (h : G fr l c 46 (a38 0 4 0) E4_0_1) : G fr l c 100038 (a38 0 4 0) E4_0_0 :=
  known (b := 74) (j := 17) (i := 25) (x := 4) (lo := 0) (hi := 4) (li := [0]) hF (by kernel_rfl) (fun s0 => by kernel_rfl) fun n h1 h2 => by
    have : n = 0 ∨ n = 1 ∨ n = 2 ∨ n = 3 ∨ n = 4 := by omega
    rcases this with rfl | rfl | rfl | rfl | rfl
    · exact ⟨wk9 0, _, rfl, rfl, by kernel_rfl, r4_0_h0_0.go hF h⟩
    · exact ⟨wk9 1, _, rfl, rfl, by kernel_rfl, r4_0_h0_1.go hF h⟩
    · exact ⟨wk9 2, _, rfl, rfl, by kernel_rfl, r4_0_h0_2.go hF h⟩
    · exact ⟨wk9 3, _, rfl, rfl, by kernel_rfl, r4_0_h0_3.go hF h⟩
    · exact ⟨wk9 4, _, rfl, rfl, by kernel_rfl, r4_0_h0_4.go hF h⟩
theorem tcC4_0 (hF : F9 fr) (h : G fr l c 100021 (hd 5) S5) : G fr l c 24 (a24 0 4) S4 :=
  (r4_0_24.go hF (r4_0_36.go hF (tcO4_0 hF (r4_0_t0.go hF (r4_0_h1.go hF (r4_0_t1.go hF (r4_0_h2.go hF (r4_0_t2.go hF (r4_0_e.go hF h)))))))))
theorem tcO4_1 (hF : F9 fr) (h : G fr l c 46 (a38 1 4 1) E4_1_2) : G fr l c 100038 (a38 1 4 1) E4_1_1 :=
  known (b := 75) (j := 18) (i := 25) (x := 4) (lo := 0) (hi := 4) (li := [1]) hF (by kernel_rfl) (fun s0 => by kernel_rfl) fun n h1 h2 => by
    have : n = 0 ∨ n = 1 ∨ n = 2 ∨ n = 3 ∨ n = 4 := by omega
    rcases this with rfl | rfl | rfl | rfl | rfl
    · exact ⟨wk10 0, _, rfl, rfl, by kernel_rfl, r4_1_h1_0.go hF h⟩
    · exact ⟨wk10 1, _, rfl, rfl, by kernel_rfl, r4_1_h1_1.go hF h⟩
    · exact ⟨wk10 2, _, rfl, rfl, by kernel_rfl, r4_1_h1_2.go hF h⟩
    · exact ⟨wk10 3, _, rfl, rfl, by kernel_rfl, r4_1_h1_3.go hF h⟩
    · exact ⟨wk10 4, _, rfl, rfl, by kernel_rfl, r4_1_h1_4.go hF h⟩
theorem tcC4_1 (hF : F9 fr) (h : G fr l c 100021 (hd 5) S5) : G fr l c 24 (a24 1 4) S4 :=
  (r4_1_24.go hF (r4_1_36.go hF (r4_1_h0.go hF (r4_1_t0.go hF (tcO4_1 hF (r4_1_t1.go hF (r4_1_h2.go hF (r4_1_t2.go hF (r4_1_e.go hF h)))))))))
theorem tcO4_2 (hF : F9 fr) (h : G fr l c 46 (a38 2 4 2) E4_2_3) : G fr l c 100038 (a38 2 4 2) E4_2_2 :=
  known (b := 76) (j := 19) (i := 25) (x := 4) (lo := 0) (hi := 4) (li := [2]) hF (by kernel_rfl) (fun s0 => by kernel_rfl) fun n h1 h2 => by
    have : n = 0 ∨ n = 1 ∨ n = 2 ∨ n = 3 ∨ n = 4 := by omega
    rcases this with rfl | rfl | rfl | rfl | rfl
    · exact ⟨wk11 0, _, rfl, rfl, by kernel_rfl, r4_2_h2_0.go hF h⟩
    · exact ⟨wk11 1, _, rfl, rfl, by kernel_rfl, r4_2_h2_1.go hF h⟩
    · exact ⟨wk11 2, _, rfl, rfl, by kernel_rfl, r4_2_h2_2.go hF h⟩
    · exact ⟨wk11 3, _, rfl, rfl, by kernel_rfl, r4_2_h2_3.go hF h⟩
    · exact ⟨wk11 4, _, rfl, rfl, by kernel_rfl, r4_2_h2_4.go hF h⟩
theorem tcC4_2 (hF : F9 fr) (h : G fr l c 100021 (hd 5) S5) : G fr l c 24 (a24 2 4) S4 :=
  (r4_2_24.go hF (r4_2_36.go hF (r4_2_h0.go hF (r4_2_t0.go hF (r4_2_h1.go hF (r4_2_t1.go hF (tcO4_2 hF (r4_2_t2.go hF (r4_2_e.go hF h)))))))))
theorem tcO5_0 (hF : F9 fr) (h : G fr l c 46 (a38 0 5 0) E5_0_1) : G fr l c 100038 (a38 0 5 0) E5_0_0 :=
  known (b := 74) (j := 17) (i := 25) (x := 4) (lo := 0) (hi := 5) (li := [0]) hF (by kernel_rfl) (fun s0 => by kernel_rfl) fun n h1 h2 => by
    have : n = 0 ∨ n = 1 ∨ n = 2 ∨ n = 3 ∨ n = 4 ∨ n = 5 := by omega
    rcases this with rfl | rfl | rfl | rfl | rfl | rfl
    · exact ⟨wk9 0, _, rfl, rfl, by kernel_rfl, r5_0_h0_0.go hF h⟩
    · exact ⟨wk9 1, _, rfl, rfl, by kernel_rfl, r5_0_h0_1.go hF h⟩
    · exact ⟨wk9 2, _, rfl, rfl, by kernel_rfl, r5_0_h0_2.go hF h⟩
    · exact ⟨wk9 3, _, rfl, rfl, by kernel_rfl, r5_0_h0_3.go hF h⟩
    · exact ⟨wk9 4, _, rfl, rfl, by kernel_rfl, r5_0_h0_4.go hF h⟩
    · exact ⟨wk9 5, _, rfl, rfl, by kernel_rfl, r5_0_h0_5.go hF h⟩
theorem tcC5_0 (hF : F9 fr) (h : G fr l c 100021 (hd 6) S6) : G fr l c 24 (a24 0 5) S5 :=
  (r5_0_24.go hF (r5_0_36.go hF (tcO5_0 hF (r5_0_t0.go hF (r5_0_h1.go hF (r5_0_t1.go hF (r5_0_h2.go hF (r5_0_t2.go hF (r5_0_e.go hF h)))))))))
theorem tcO5_1 (hF : F9 fr) (h : G fr l c 46 (a38 1 5 1) E5_1_2) : G fr l c 100038 (a38 1 5 1) E5_1_1 :=
  known (b := 75) (j := 18) (i := 25) (x := 4) (lo := 0) (hi := 5) (li := [1]) hF (by kernel_rfl) (fun s0 => by kernel_rfl) fun n h1 h2 => by
    have : n = 0 ∨ n = 1 ∨ n = 2 ∨ n = 3 ∨ n = 4 ∨ n = 5 := by omega
    rcases this with rfl | rfl | rfl | rfl | rfl | rfl
    · exact ⟨wk10 0, _, rfl, rfl, by kernel_rfl, r5_1_h1_0.go hF h⟩
    · exact ⟨wk10 1, _, rfl, rfl, by kernel_rfl, r5_1_h1_1.go hF h⟩
    · exact ⟨wk10 2, _, rfl, rfl, by kernel_rfl, r5_1_h1_2.go hF h⟩
    · exact ⟨wk10 3, _, rfl, rfl, by kernel_rfl, r5_1_h1_3.go hF h⟩
    · exact ⟨wk10 4, _, rfl, rfl, by kernel_rfl, r5_1_h1_4.go hF h⟩
    · exact ⟨wk10 5, _, rfl, rfl, by kernel_rfl, r5_1_h1_5.go hF h⟩
theorem tcC5_1 (hF : F9 fr) (h : G fr l c 100021 (hd 6) S6) : G fr l c 24 (a24 1 5) S5 :=
  (r5_1_24.go hF (r5_1_36.go hF (r5_1_h0.go hF (r5_1_t0.go hF (tcO5_1 hF (r5_1_t1.go hF (r5_1_h2.go hF (r5_1_t2.go hF (r5_1_e.go hF h)))))))))
theorem tcO5_2 (hF : F9 fr) (h : G fr l c 46 (a38 2 5 2) E5_2_3) : G fr l c 100038 (a38 2 5 2) E5_2_2 :=
  known (b := 76) (j := 19) (i := 25) (x := 4) (lo := 0) (hi := 5) (li := [2]) hF (by kernel_rfl) (fun s0 => by kernel_rfl) fun n h1 h2 => by
    have : n = 0 ∨ n = 1 ∨ n = 2 ∨ n = 3 ∨ n = 4 ∨ n = 5 := by omega
    rcases this with rfl | rfl | rfl | rfl | rfl | rfl
    · exact ⟨wk11 0, _, rfl, rfl, by kernel_rfl, r5_2_h2_0.go hF h⟩
    · exact ⟨wk11 1, _, rfl, rfl, by kernel_rfl, r5_2_h2_1.go hF h⟩
    · exact ⟨wk11 2, _, rfl, rfl, by kernel_rfl, r5_2_h2_2.go hF h⟩
    · exact ⟨wk11 3, _, rfl, rfl, by kernel_rfl, r5_2_h2_3.go hF h⟩
    · exact ⟨wk11 4, _, rfl, rfl, by kernel_rfl, r5_2_h2_4.go hF h⟩
    · exact ⟨wk11 5, _, rfl, rfl, by kernel_rfl, r5_2_h2_5.go hF h⟩
theorem tcC5_2 (hF : F9 fr) (h : G fr l c 100021 (hd 6) S6) : G fr l c 24 (a24 2 5) S5 :=
  (r5_2_24.go hF (r5_2_36.go hF (r5_2_h0.go hF (r5_2_t0.go hF (r5_2_h1.go hF (r5_2_t1.go hF (tcO5_2 hF (r5_2_t2.go hF (r5_2_e.go hF h)))))))))
theorem tcO6_0 (hF : F9 fr) (h : G fr l c 46 (a38 0 6 0) E6_0_1) : G fr l c 100038 (a38 0 6 0) E6_0_0 :=
  known (b := 74) (j := 17) (i := 25) (x := 4) (lo := 0) (hi := 6) (li := [0]) hF (by kernel_rfl) (fun s0 => by kernel_rfl) fun n h1 h2 => by
    have : n = 0 ∨ n = 1 ∨ n = 2 ∨ n = 3 ∨ n = 4 ∨ n = 5 ∨ n = 6 := by omega
    rcases this with rfl | rfl | rfl | rfl | rfl | rfl | rfl
    · exact ⟨wk9 0, _, rfl, rfl, by kernel_rfl, r6_0_h0_0.go hF h⟩
    · exact ⟨wk9 1, _, rfl, rfl, by kernel_rfl, r6_0_h0_1.go hF h⟩
    · exact ⟨wk9 2, _, rfl, rfl, by kernel_rfl, r6_0_h0_2.go hF h⟩
    · exact ⟨wk9 3, _, rfl, rfl, by kernel_rfl, r6_0_h0_3.go hF h⟩
    · exact ⟨wk9 4, _, rfl, rfl, by kernel_rfl, r6_0_h0_4.go hF h⟩
    · exact ⟨wk9 5, _, rfl, rfl, by kernel_rfl, r6_0_h0_5.go hF h⟩
    · exact ⟨wk9 6, _, rfl, rfl, by kernel_rfl, r6_0_h0_6.go hF h⟩
theorem tcC6_0 (hF : F9 fr) (h : G fr l c 100021 (hd 7) S7) : G fr l c 24 (a24 0 6) S6 :=
  (r6_0_24.go hF (r6_0_36.go hF (tcO6_0 hF (r6_0_t0.go hF (r6_0_h1.go hF (r6_0_t1.go hF (r6_0_h2.go hF (r6_0_t2.go hF (r6_0_e.go hF h)))))))))
theorem tcO6_1 (hF : F9 fr) (h : G fr l c 46 (a38 1 6 1) E6_1_2) : G fr l c 100038 (a38 1 6 1) E6_1_1 :=
  known (b := 75) (j := 18) (i := 25) (x := 4) (lo := 0) (hi := 6) (li := [1]) hF (by kernel_rfl) (fun s0 => by kernel_rfl) fun n h1 h2 => by
    have : n = 0 ∨ n = 1 ∨ n = 2 ∨ n = 3 ∨ n = 4 ∨ n = 5 ∨ n = 6 := by omega
    rcases this with rfl | rfl | rfl | rfl | rfl | rfl | rfl
    · exact ⟨wk10 0, _, rfl, rfl, by kernel_rfl, r6_1_h1_0.go hF h⟩
    · exact ⟨wk10 1, _, rfl, rfl, by kernel_rfl, r6_1_h1_1.go hF h⟩
    · exact ⟨wk10 2, _, rfl, rfl, by kernel_rfl, r6_1_h1_2.go hF h⟩
    · exact ⟨wk10 3, _, rfl, rfl, by kernel_rfl, r6_1_h1_3.go hF h⟩
    · exact ⟨wk10 4, _, rfl, rfl, by kernel_rfl, r6_1_h1_4.go hF h⟩
    · exact ⟨wk10 5, _, rfl, rfl, by kernel_rfl, r6_1_h1_5.go hF h⟩
    · exact ⟨wk10 6, _, rfl, rfl, by kernel_rfl, r6_1_h1_6.go hF h⟩
theorem tcC6_1 (hF : F9 fr) (h : G fr l c 100021 (hd 7) S7) : G fr l c 24 (a24 1 6) S6 :=
  (r6_1_24.go hF (r6_1_36.go hF (r6_1_h0.go hF (r6_1_t0.go hF (tcO6_1 hF (r6_1_t1.go hF (r6_1_h2.go hF (r6_1_t2.go hF (r6_1_e.go hF h)))))))))
theorem tcO6_2 (hF : F9 fr) (h : G fr l c 46 (a38 2 6 2) E6_2_3) : G fr l c 100038 (a38 2 6 2) E6_2_2 :=
  known (b := 76) (j := 19) (i := 25) (x := 4) (lo := 0) (hi := 6) (li := [2]) hF (by kernel_rfl) (fun s0 => by kernel_rfl) fun n h1 h2 => by
    have : n = 0 ∨ n = 1 ∨ n = 2 ∨ n = 3 ∨ n = 4 ∨ n = 5 ∨ n = 6 := by omega
    rcases this with rfl | rfl | rfl | rfl | rfl | rfl | rfl
    · exact ⟨wk11 0, _, rfl, rfl, by kernel_rfl, r6_2_h2_0.go hF h⟩
    · exact ⟨wk11 1, _, rfl, rfl, by kernel_rfl, r6_2_h2_1.go hF h⟩
    · exact ⟨wk11 2, _, rfl, rfl, by kernel_rfl, r6_2_h2_2.go hF h⟩
    · exact ⟨wk11 3, _, rfl, rfl, by kernel_rfl, r6_2_h2_3.go hF h⟩
    · exact ⟨wk11 4, _, rfl, rfl, by kernel_rfl, r6_2_h2_4.go hF h⟩
    · exact ⟨wk11 5, _, rfl, rfl, by kernel_rfl, r6_2_h2_5.go hF h⟩
    · exact ⟨wk11 6, _, rfl, rfl, by kernel_rfl, r6_2_h2_6.go hF h⟩
theorem tcC6_2 (hF : F9 fr) (h : G fr l c 100021 (hd 7) S7) : G fr l c 24 (a24 2 6) S6 :=
  (r6_2_24.go hF (r6_2_36.go hF (r6_2_h0.go hF (r6_2_t0.go hF (r6_2_h1.go hF (r6_2_t1.go hF (tcO6_2 hF (r6_2_t2.go hF (r6_2_e.go hF h)))))))))
theorem tcO7_0 (hF : F9 fr) (h : G fr l c 46 (a38 0 7 0) E7_0_1) : G fr l c 100038 (a38 0 7 0) E7_0_0 :=
  known (b := 74) (j := 17) (i := 25) (x := 4) (lo := 0) (hi := 7) (li := [0]) hF (by kernel_rfl) (fun s0 => by kernel_rfl) fun n h1 h2 => by
    have : n = 0 ∨ n = 1 ∨ n = 2 ∨ n = 3 ∨ n = 4 ∨ n = 5 ∨ n = 6 ∨ n = 7 := by omega
    rcases this with rfl | rfl | rfl | rfl | rfl | rfl | rfl | rfl
    · exact ⟨wk9 0, _, rfl, rfl, by kernel_rfl, r7_0_h0_0.go hF h⟩
    · exact ⟨wk9 1, _, rfl, rfl, by kernel_rfl, r7_0_h0_1.go hF h⟩
    · exact ⟨wk9 2, _, rfl, rfl, by kernel_rfl, r7_0_h0_2.go hF h⟩
    · exact ⟨wk9 3, _, rfl, rfl, by kernel_rfl, r7_0_h0_3.go hF h⟩
    · exact ⟨wk9 4, _, rfl, rfl, by kernel_rfl, r7_0_h0_4.go hF h⟩
    · exact ⟨wk9 5, _, rfl, rfl, by kernel_rfl, r7_0_h0_5.go hF h⟩
    · exact ⟨wk9 6, _, rfl, rfl, by kernel_rfl, r7_0_h0_6.go hF h⟩
    · exact ⟨wk9 7, _, rfl, rfl, by kernel_rfl, r7_0_h0_7.go hF h⟩
theorem tcC7_0 (hF : F9 fr) (h : G fr l c 100021 (hd 8) S8) : G fr l c 24 (a24 0 7) S7 :=
  (r7_0_24.go hF (r7_0_36.go hF (tcO7_0 hF (r7_0_t0.go hF (r7_0_h1.go hF (r7_0_t1.go hF (r7_0_h2.go hF (r7_0_t2.go hF (r7_0_e.go hF h)))))))))
theorem tcO7_1 (hF : F9 fr) (h : G fr l c 46 (a38 1 7 1) E7_1_2) : G fr l c 100038 (a38 1 7 1) E7_1_1 :=
  known (b := 75) (j := 18) (i := 25) (x := 4) (lo := 0) (hi := 7) (li := [1]) hF (by kernel_rfl) (fun s0 => by kernel_rfl) fun n h1 h2 => by
    have : n = 0 ∨ n = 1 ∨ n = 2 ∨ n = 3 ∨ n = 4 ∨ n = 5 ∨ n = 6 ∨ n = 7 := by omega
    rcases this with rfl | rfl | rfl | rfl | rfl | rfl | rfl | rfl
    · exact ⟨wk10 0, _, rfl, rfl, by kernel_rfl, r7_1_h1_0.go hF h⟩
    · exact ⟨wk10 1, _, rfl, rfl, by kernel_rfl, r7_1_h1_1.go hF h⟩
    · exact ⟨wk10 2, _, rfl, rfl, by kernel_rfl, r7_1_h1_2.go hF h⟩
    · exact ⟨wk10 3, _, rfl, rfl, by kernel_rfl, r7_1_h1_3.go hF h⟩
    · exact ⟨wk10 4, _, rfl, rfl, by kernel_rfl, r7_1_h1_4.go hF h⟩
    · exact ⟨wk10 5, _, rfl, rfl, by kernel_rfl, r7_1_h1_5.go hF h⟩
    · exact ⟨wk10 6, _, rfl, rfl, by kernel_rfl, r7_1_h1_6.go hF h⟩
    · exact ⟨wk10 7, _, rfl, rfl, by kernel_rfl, r7_1_h1_7.go hF h⟩
theorem tcC7_1 (hF : F9 fr) (h : G fr l c 100021 (hd 8) S8) : G fr l c 24 (a24 1 7) S7 :=
  (r7_1_24.go hF (r7_1_36.go hF (r7_1_h0.go hF (r7_1_t0.go hF (tcO7_1 hF (r7_1_t1.go hF (r7_1_h2.go hF (r7_1_t2.go hF (r7_1_e.go hF h)))))))))
theorem tcO7_2 (hF : F9 fr) (h : G fr l c 46 (a38 2 7 2) E7_2_3) : G fr l c 100038 (a38 2 7 2) E7_2_2 :=
  known (b := 76) (j := 19) (i := 25) (x := 4) (lo := 0) (hi := 7) (li := [2]) hF (by kernel_rfl) (fun s0 => by kernel_rfl) fun n h1 h2 => by
    have : n = 0 ∨ n = 1 ∨ n = 2 ∨ n = 3 ∨ n = 4 ∨ n = 5 ∨ n = 6 ∨ n = 7 := by omega
    rcases this with rfl | rfl | rfl | rfl | rfl | rfl | rfl | rfl
    · exact ⟨wk11 0, _, rfl, rfl, by kernel_rfl, r7_2_h2_0.go hF h⟩
    · exact ⟨wk11 1, _, rfl, rfl, by kernel_rfl, r7_2_h2_1.go hF h⟩
    · exact ⟨wk11 2, _, rfl, rfl, by kernel_rfl, r7_2_h2_2.go hF h⟩
    · exact ⟨wk11 3, _, rfl, rfl, by kernel_rfl, r7_2_h2_3.go hF h⟩
    · exact ⟨wk11 4, _, rfl, rfl, by kernel_rfl, r7_2_h2_4.go hF h⟩
    · exact ⟨wk11 5, _, rfl, rfl, by kernel_rfl, r7_2_h2_5.go hF h⟩
    · exact ⟨wk11 6, _, rfl, rfl, by kernel_rfl, r7_2_h2_6.go hF h⟩
    · exact ⟨wk11 7, _, rfl, rfl, by kernel_rfl, r7_2_h2_7.go hF h⟩
theorem tcC7_2 (hF : F9 fr) (h : G fr l c 100021 (hd 8) S8) : G fr l c 24 (a24 2 7) S7 :=
  (r7_2_24.go hF (r7_2_36.go hF (r7_2_h0.go hF (r7_2_t0.go hF (r7_2_h1.go hF (r7_2_t1.go hF (tcO7_2 hF (r7_2_t2.go hF (r7_2_e.go hF h)))))))))
theorem tcO8_0 (hF : F9 fr) (h : G fr l c 46 (a38 0 8 0) E8_0_1) : G fr l c 100038 (a38 0 8 0) E8_0_0 :=
  known (b := 74) (j := 17) (i := 25) (x := 4) (lo := 0) (hi := 8) (li := [0]) hF (by kernel_rfl) (fun s0 => by kernel_rfl) fun n h1 h2 => by
    have : n = 0 ∨ n = 1 ∨ n = 2 ∨ n = 3 ∨ n = 4 ∨ n = 5 ∨ n = 6 ∨ n = 7 ∨ n = 8 := by omega
    rcases this with rfl | rfl | rfl | rfl | rfl | rfl | rfl | rfl | rfl
    · exact ⟨wk9 0, _, rfl, rfl, by kernel_rfl, r8_0_h0_0.go hF h⟩
    · exact ⟨wk9 1, _, rfl, rfl, by kernel_rfl, r8_0_h0_1.go hF h⟩
    · exact ⟨wk9 2, _, rfl, rfl, by kernel_rfl, r8_0_h0_2.go hF h⟩
    · exact ⟨wk9 3, _, rfl, rfl, by kernel_rfl, r8_0_h0_3.go hF h⟩
    · exact ⟨wk9 4, _, rfl, rfl, by kernel_rfl, r8_0_h0_4.go hF h⟩
    · exact ⟨wk9 5, _, rfl, rfl, by kernel_rfl, r8_0_h0_5.go hF h⟩
    · exact ⟨wk9 6, _, rfl, rfl, by kernel_rfl, r8_0_h0_6.go hF h⟩
    · exact ⟨wk9 7, _, rfl, rfl, by kernel_rfl, r8_0_h0_7.go hF h⟩
    · exact ⟨wk9 8, _, rfl, rfl, by kernel_rfl, r8_0_h0_8.go hF h⟩
theorem tcC8_0 (hF : F9 fr) (h : G fr l c 100021 (hd 9) S9) : G fr l c 24 (a24 0 8) S8 :=
  (r8_0_24.go hF (r8_0_36.go hF (tcO8_0 hF (r8_0_t0.go hF (r8_0_h1.go hF (r8_0_t1.go hF (r8_0_h2.go hF (r8_0_t2.go hF (r8_0_e.go hF h)))))))))
theorem tcO8_1 (hF : F9 fr) (h : G fr l c 46 (a38 1 8 1) E8_1_2) : G fr l c 100038 (a38 1 8 1) E8_1_1 :=
  known (b := 75) (j := 18) (i := 25) (x := 4) (lo := 0) (hi := 8) (li := [1]) hF (by kernel_rfl) (fun s0 => by kernel_rfl) fun n h1 h2 => by
    have : n = 0 ∨ n = 1 ∨ n = 2 ∨ n = 3 ∨ n = 4 ∨ n = 5 ∨ n = 6 ∨ n = 7 ∨ n = 8 := by omega
    rcases this with rfl | rfl | rfl | rfl | rfl | rfl | rfl | rfl | rfl
    · exact ⟨wk10 0, _, rfl, rfl, by kernel_rfl, r8_1_h1_0.go hF h⟩
    · exact ⟨wk10 1, _, rfl, rfl, by kernel_rfl, r8_1_h1_1.go hF h⟩
    · exact ⟨wk10 2, _, rfl, rfl, by kernel_rfl, r8_1_h1_2.go hF h⟩
    · exact ⟨wk10 3, _, rfl, rfl, by kernel_rfl, r8_1_h1_3.go hF h⟩
    · exact ⟨wk10 4, _, rfl, rfl, by kernel_rfl, r8_1_h1_4.go hF h⟩
    · exact ⟨wk10 5, _, rfl, rfl, by kernel_rfl, r8_1_h1_5.go hF h⟩
    · exact ⟨wk10 6, _, rfl, rfl, by kernel_rfl, r8_1_h1_6.go hF h⟩
    · exact ⟨wk10 7, _, rfl, rfl, by kernel_rfl, r8_1_h1_7.go hF h⟩
    · exact ⟨wk10 8, _, rfl, rfl, by kernel_rfl, r8_1_h1_8.go hF h⟩
theorem tcC8_1 (hF : F9 fr) (h : G fr l c 100021 (hd 9) S9) : G fr l c 24 (a24 1 8) S8 :=
  (r8_1_24.go hF (r8_1_36.go hF (r8_1_h0.go hF (r8_1_t0.go hF (tcO8_1 hF (r8_1_t1.go hF (r8_1_h2.go hF (r8_1_t2.go hF (r8_1_e.go hF h)))))))))
theorem tcO8_2 (hF : F9 fr) (h : G fr l c 46 (a38 2 8 2) E8_2_3) : G fr l c 100038 (a38 2 8 2) E8_2_2 :=
  known (b := 76) (j := 19) (i := 25) (x := 4) (lo := 0) (hi := 8) (li := [2]) hF (by kernel_rfl) (fun s0 => by kernel_rfl) fun n h1 h2 => by
    have : n = 0 ∨ n = 1 ∨ n = 2 ∨ n = 3 ∨ n = 4 ∨ n = 5 ∨ n = 6 ∨ n = 7 ∨ n = 8 := by omega
    rcases this with rfl | rfl | rfl | rfl | rfl | rfl | rfl | rfl | rfl
    · exact ⟨wk11 0, _, rfl, rfl, by kernel_rfl, r8_2_h2_0.go hF h⟩
    · exact ⟨wk11 1, _, rfl, rfl, by kernel_rfl, r8_2_h2_1.go hF h⟩
    · exact ⟨wk11 2, _, rfl, rfl, by kernel_rfl, r8_2_h2_2.go hF h⟩
    · exact ⟨wk11 3, _, rfl, rfl, by kernel_rfl, r8_2_h2_3.go hF h⟩
    · exact ⟨wk11 4, _, rfl, rfl, by kernel_rfl, r8_2_h2_4.go hF h⟩
    · exact ⟨wk11 5, _, rfl, rfl, by kernel_rfl, r8_2_h2_5.go hF h⟩
    · exact ⟨wk11 6, _, rfl, rfl, by kernel_rfl, r8_2_h2_6.go hF h⟩
    · exact ⟨wk11 7, _, rfl, rfl, by kernel_rfl, r8_2_h2_7.go hF h⟩
    · exact ⟨wk11 8, _, rfl, rfl, by kernel_rfl, r8_2_h2_8.go hF h⟩
theorem tcC8_2 (hF : F9 fr) (h : G fr l c 100021 (hd 9) S9) : G fr l c 24 (a24 2 8) S8 :=
  (r8_2_24.go hF (r8_2_36.go hF (r8_2_h0.go hF (r8_2_t0.go hF (r8_2_h1.go hF (r8_2_t1.go hF (tcO8_2 hF (r8_2_t2.go hF (r8_2_e.go hF h)))))))))
theorem tcO9_0 (hF : F9 fr) (h : G fr l c 46 (a38 0 9 0) E9_0_1) : G fr l c 100038 (a38 0 9 0) E9_0_0 :=
  known (b := 74) (j := 17) (i := 25) (x := 4) (lo := 0) (hi := 9) (li := [0]) hF (by kernel_rfl) (fun s0 => by kernel_rfl) fun n h1 h2 => by
    have : n = 0 ∨ n = 1 ∨ n = 2 ∨ n = 3 ∨ n = 4 ∨ n = 5 ∨ n = 6 ∨ n = 7 ∨ n = 8 ∨ n = 9 := by omega
    rcases this with rfl | rfl | rfl | rfl | rfl | rfl | rfl | rfl | rfl | rfl
    · exact ⟨wk9 0, _, rfl, rfl, by kernel_rfl, r9_0_h0_0.go hF h⟩
    · exact ⟨wk9 1, _, rfl, rfl, by kernel_rfl, r9_0_h0_1.go hF h⟩
    · exact ⟨wk9 2, _, rfl, rfl, by kernel_rfl, r9_0_h0_2.go hF h⟩
    · exact ⟨wk9 3, _, rfl, rfl, by kernel_rfl, r9_0_h0_3.go hF h⟩
    · exact ⟨wk9 4, _, rfl, rfl, by kernel_rfl, r9_0_h0_4.go hF h⟩
    · exact ⟨wk9 5, _, rfl, rfl, by kernel_rfl, r9_0_h0_5.go hF h⟩
    · exact ⟨wk9 6, _, rfl, rfl, by kernel_rfl, r9_0_h0_6.go hF h⟩
    · exact ⟨wk9 7, _, rfl, rfl, by kernel_rfl, r9_0_h0_7.go hF h⟩
    · exact ⟨wk9 8, _, rfl, rfl, by kernel_rfl, r9_0_h0_8.go hF h⟩
    · exact ⟨wk9 9, _, rfl, rfl, by kernel_rfl, r9_0_h0_9.go hF h⟩
theorem tcC9_0 (hF : F9 fr) (h : G fr l c 100021 (hd 10) S10) : G fr l c 24 (a24 0 9) S9 :=
  (r9_0_24.go hF (r9_0_36.go hF (tcO9_0 hF (r9_0_t0.go hF (r9_0_h1.go hF (r9_0_t1.go hF (r9_0_h2.go hF (r9_0_t2.go hF (r9_0_e.go hF h)))))))))
theorem tcO9_1 (hF : F9 fr) (h : G fr l c 46 (a38 1 9 1) E9_1_2) : G fr l c 100038 (a38 1 9 1) E9_1_1 :=
  known (b := 75) (j := 18) (i := 25) (x := 4) (lo := 0) (hi := 9) (li := [1]) hF (by kernel_rfl) (fun s0 => by kernel_rfl) fun n h1 h2 => by
    have : n = 0 ∨ n = 1 ∨ n = 2 ∨ n = 3 ∨ n = 4 ∨ n = 5 ∨ n = 6 ∨ n = 7 ∨ n = 8 ∨ n = 9 := by omega
    rcases this with rfl | rfl | rfl | rfl | rfl | rfl | rfl | rfl | rfl | rfl
    · exact ⟨wk10 0, _, rfl, rfl, by kernel_rfl, r9_1_h1_0.go hF h⟩
    · exact ⟨wk10 1, _, rfl, rfl, by kernel_rfl, r9_1_h1_1.go hF h⟩
    · exact ⟨wk10 2, _, rfl, rfl, by kernel_rfl, r9_1_h1_2.go hF h⟩
    · exact ⟨wk10 3, _, rfl, rfl, by kernel_rfl, r9_1_h1_3.go hF h⟩
    · exact ⟨wk10 4, _, rfl, rfl, by kernel_rfl, r9_1_h1_4.go hF h⟩
    · exact ⟨wk10 5, _, rfl, rfl, by kernel_rfl, r9_1_h1_5.go hF h⟩
    · exact ⟨wk10 6, _, rfl, rfl, by kernel_rfl, r9_1_h1_6.go hF h⟩
    · exact ⟨wk10 7, _, rfl, rfl, by kernel_rfl, r9_1_h1_7.go hF h⟩
    · exact ⟨wk10 8, _, rfl, rfl, by kernel_rfl, r9_1_h1_8.go hF h⟩
    · exact ⟨wk10 9, _, rfl, rfl, by kernel_rfl, r9_1_h1_9.go hF h⟩
theorem tcC9_1 (hF : F9 fr) (h : G fr l c 100021 (hd 10) S10) : G fr l c 24 (a24 1 9) S9 :=
  (r9_1_24.go hF (r9_1_36.go hF (r9_1_h0.go hF (r9_1_t0.go hF (tcO9_1 hF (r9_1_t1.go hF (r9_1_h2.go hF (r9_1_t2.go hF (r9_1_e.go hF h)))))))))
theorem tcO9_2 (hF : F9 fr) (h : G fr l c 46 (a38 2 9 2) E9_2_3) : G fr l c 100038 (a38 2 9 2) E9_2_2 :=
  known (b := 76) (j := 19) (i := 25) (x := 4) (lo := 0) (hi := 9) (li := [2]) hF (by kernel_rfl) (fun s0 => by kernel_rfl) fun n h1 h2 => by
    have : n = 0 ∨ n = 1 ∨ n = 2 ∨ n = 3 ∨ n = 4 ∨ n = 5 ∨ n = 6 ∨ n = 7 ∨ n = 8 ∨ n = 9 := by omega
    rcases this with rfl | rfl | rfl | rfl | rfl | rfl | rfl | rfl | rfl | rfl
    · exact ⟨wk11 0, _, rfl, rfl, by kernel_rfl, r9_2_h2_0.go hF h⟩
    · exact ⟨wk11 1, _, rfl, rfl, by kernel_rfl, r9_2_h2_1.go hF h⟩
    · exact ⟨wk11 2, _, rfl, rfl, by kernel_rfl, r9_2_h2_2.go hF h⟩
    · exact ⟨wk11 3, _, rfl, rfl, by kernel_rfl, r9_2_h2_3.go hF h⟩
    · exact ⟨wk11 4, _, rfl, rfl, by kernel_rfl, r9_2_h2_4.go hF h⟩
    · exact ⟨wk11 5, _, rfl, rfl, by kernel_rfl, r9_2_h2_5.go hF h⟩
    · exact ⟨wk11 6, _, rfl, rfl, by kernel_rfl, r9_2_h2_6.go hF h⟩
    · exact ⟨wk11 7, _, rfl, rfl, by kernel_rfl, r9_2_h2_7.go hF h⟩
    · exact ⟨wk11 8, _, rfl, rfl, by kernel_rfl, r9_2_h2_8.go hF h⟩
    · exact ⟨wk11 9, _, rfl, rfl, by kernel_rfl, r9_2_h2_9.go hF h⟩
theorem tcC9_2 (hF : F9 fr) (h : G fr l c 100021 (hd 10) S10) : G fr l c 24 (a24 2 9) S9 :=
  (r9_2_24.go hF (r9_2_36.go hF (r9_2_h0.go hF (r9_2_t0.go hF (r9_2_h1.go hF (r9_2_t1.go hF (tcO9_2 hF (r9_2_t2.go hF (r9_2_e.go hF h)))))))))
theorem tcO10_0 (hF : F9 fr) (h : G fr l c 46 (a38 0 10 0) E10_0_1) : G fr l c 100038 (a38 0 10 0) E10_0_0 :=
  known (b := 74) (j := 17) (i := 25) (x := 4) (lo := 0) (hi := 10) (li := [0]) hF (by kernel_rfl) (fun s0 => by kernel_rfl) fun n h1 h2 => by
    have : n = 0 ∨ n = 1 ∨ n = 2 ∨ n = 3 ∨ n = 4 ∨ n = 5 ∨ n = 6 ∨ n = 7 ∨ n = 8 ∨ n = 9 ∨ n = 10 := by omega
    rcases this with rfl | rfl | rfl | rfl | rfl | rfl | rfl | rfl | rfl | rfl | rfl
    · exact ⟨wk9 0, _, rfl, rfl, by kernel_rfl, r10_0_h0_0.go hF h⟩
    · exact ⟨wk9 1, _, rfl, rfl, by kernel_rfl, r10_0_h0_1.go hF h⟩
    · exact ⟨wk9 2, _, rfl, rfl, by kernel_rfl, r10_0_h0_2.go hF h⟩
    · exact ⟨wk9 3, _, rfl, rfl, by kernel_rfl, r10_0_h0_3.go hF h⟩
    · exact ⟨wk9 4, _, rfl, rfl, by kernel_rfl, r10_0_h0_4.go hF h⟩
    · exact ⟨wk9 5, _, rfl, rfl, by kernel_rfl, r10_0_h0_5.go hF h⟩
    · exact ⟨wk9 6, _, rfl, rfl, by kernel_rfl, r10_0_h0_6.go hF h⟩
    · exact ⟨wk9 7, _, rfl, rfl, by kernel_rfl, r10_0_h0_7.go hF h⟩
    · exact ⟨wk9 8, _, rfl, rfl, by kernel_rfl, r10_0_h0_8.go hF h⟩
    · exact ⟨wk9 9, _, rfl, rfl, by kernel_rfl, r10_0_h0_9.go hF h⟩
    · exact ⟨wk9 10, _, rfl, rfl, by kernel_rfl, r10_0_h0_10.go hF h⟩
theorem tcC10_0 (hF : F9 fr) (h : G fr l c 100021 (hd 11) S11) : G fr l c 24 (a24 0 10) S10 :=
  (r10_0_24.go hF (r10_0_36.go hF (tcO10_0 hF (r10_0_t0.go hF (r10_0_h1.go hF (r10_0_t1.go hF (r10_0_h2.go hF (r10_0_t2.go hF (r10_0_e.go hF h)))))))))
theorem tcO10_1 (hF : F9 fr) (h : G fr l c 46 (a38 1 10 1) E10_1_2) : G fr l c 100038 (a38 1 10 1) E10_1_1 :=
  known (b := 75) (j := 18) (i := 25) (x := 4) (lo := 0) (hi := 10) (li := [1]) hF (by kernel_rfl) (fun s0 => by kernel_rfl) fun n h1 h2 => by
    have : n = 0 ∨ n = 1 ∨ n = 2 ∨ n = 3 ∨ n = 4 ∨ n = 5 ∨ n = 6 ∨ n = 7 ∨ n = 8 ∨ n = 9 ∨ n = 10 := by omega
    rcases this with rfl | rfl | rfl | rfl | rfl | rfl | rfl | rfl | rfl | rfl | rfl
    · exact ⟨wk10 0, _, rfl, rfl, by kernel_rfl, r10_1_h1_0.go hF h⟩
    · exact ⟨wk10 1, _, rfl, rfl, by kernel_rfl, r10_1_h1_1.go hF h⟩
    · exact ⟨wk10 2, _, rfl, rfl, by kernel_rfl, r10_1_h1_2.go hF h⟩
    · exact ⟨wk10 3, _, rfl, rfl, by kernel_rfl, r10_1_h1_3.go hF h⟩
    · exact ⟨wk10 4, _, rfl, rfl, by kernel_rfl, r10_1_h1_4.go hF h⟩
    · exact ⟨wk10 5, _, rfl, rfl, by kernel_rfl, r10_1_h1_5.go hF h⟩
    · exact ⟨wk10 6, _, rfl, rfl, by kernel_rfl, r10_1_h1_6.go hF h⟩
    · exact ⟨wk10 7, _, rfl, rfl, by kernel_rfl, r10_1_h1_7.go hF h⟩
    · exact ⟨wk10 8, _, rfl, rfl, by kernel_rfl, r10_1_h1_8.go hF h⟩
    · exact ⟨wk10 9, _, rfl, rfl, by kernel_rfl, r10_1_h1_9.go hF h⟩
    · exact ⟨wk10 10, _, rfl, rfl, by kernel_rfl, r10_1_h1_10.go hF h⟩
theorem tcC10_1 (hF : F9 fr) (h : G fr l c 100021 (hd 11) S11) : G fr l c 24 (a24 1 10) S10 :=
  (r10_1_24.go hF (r10_1_36.go hF (r10_1_h0.go hF (r10_1_t0.go hF (tcO10_1 hF (r10_1_t1.go hF (r10_1_h2.go hF (r10_1_t2.go hF (r10_1_e.go hF h)))))))))
theorem tcO10_2 (hF : F9 fr) (h : G fr l c 46 (a38 2 10 2) E10_2_3) : G fr l c 100038 (a38 2 10 2) E10_2_2 :=
  known (b := 76) (j := 19) (i := 25) (x := 4) (lo := 0) (hi := 10) (li := [2]) hF (by kernel_rfl) (fun s0 => by kernel_rfl) fun n h1 h2 => by
    have : n = 0 ∨ n = 1 ∨ n = 2 ∨ n = 3 ∨ n = 4 ∨ n = 5 ∨ n = 6 ∨ n = 7 ∨ n = 8 ∨ n = 9 ∨ n = 10 := by omega
    rcases this with rfl | rfl | rfl | rfl | rfl | rfl | rfl | rfl | rfl | rfl | rfl
    · exact ⟨wk11 0, _, rfl, rfl, by kernel_rfl, r10_2_h2_0.go hF h⟩
    · exact ⟨wk11 1, _, rfl, rfl, by kernel_rfl, r10_2_h2_1.go hF h⟩
    · exact ⟨wk11 2, _, rfl, rfl, by kernel_rfl, r10_2_h2_2.go hF h⟩
    · exact ⟨wk11 3, _, rfl, rfl, by kernel_rfl, r10_2_h2_3.go hF h⟩
    · exact ⟨wk11 4, _, rfl, rfl, by kernel_rfl, r10_2_h2_4.go hF h⟩
    · exact ⟨wk11 5, _, rfl, rfl, by kernel_rfl, r10_2_h2_5.go hF h⟩
    · exact ⟨wk11 6, _, rfl, rfl, by kernel_rfl, r10_2_h2_6.go hF h⟩
    · exact ⟨wk11 7, _, rfl, rfl, by kernel_rfl, r10_2_h2_7.go hF h⟩
    · exact ⟨wk11 8, _, rfl, rfl, by kernel_rfl, r10_2_h2_8.go hF h⟩
    · exact ⟨wk11 9, _, rfl, rfl, by kernel_rfl, r10_2_h2_9.go hF h⟩
    · exact ⟨wk11 10, _, rfl, rfl, by kernel_rfl, r10_2_h2_10.go hF h⟩
theorem tcC10_2 (hF : F9 fr) (h : G fr l c 100021 (hd 11) S11) : G fr l c 24 (a24 2 10) S10 :=
  (r10_2_24.go hF (r10_2_36.go hF (r10_2_h0.go hF (r10_2_t0.go hF (r10_2_h1.go hF (r10_2_t1.go hF (tcO10_2 hF (r10_2_t2.go hF (r10_2_e.go hF h)))))))))
theorem tcO11_0 (hF : F9 fr) (h : G fr l c 46 (a38 0 11 0) E11_0_1) : G fr l c 100038 (a38 0 11 0) E11_0_0 :=
  known (b := 74) (j := 17) (i := 25) (x := 4) (lo := 0) (hi := 11) (li := [0]) hF (by kernel_rfl) (fun s0 => by kernel_rfl) fun n h1 h2 => by
    have : n = 0 ∨ n = 1 ∨ n = 2 ∨ n = 3 ∨ n = 4 ∨ n = 5 ∨ n = 6 ∨ n = 7 ∨ n = 8 ∨ n = 9 ∨ n = 10 ∨ n = 11 := by omega
    rcases this with rfl | rfl | rfl | rfl | rfl | rfl | rfl | rfl | rfl | rfl | rfl | rfl
    · exact ⟨wk9 0, _, rfl, rfl, by kernel_rfl, r11_0_h0_0.go hF h⟩
    · exact ⟨wk9 1, _, rfl, rfl, by kernel_rfl, r11_0_h0_1.go hF h⟩
    · exact ⟨wk9 2, _, rfl, rfl, by kernel_rfl, r11_0_h0_2.go hF h⟩
    · exact ⟨wk9 3, _, rfl, rfl, by kernel_rfl, r11_0_h0_3.go hF h⟩
    · exact ⟨wk9 4, _, rfl, rfl, by kernel_rfl, r11_0_h0_4.go hF h⟩
    · exact ⟨wk9 5, _, rfl, rfl, by kernel_rfl, r11_0_h0_5.go hF h⟩
    · exact ⟨wk9 6, _, rfl, rfl, by kernel_rfl, r11_0_h0_6.go hF h⟩
    · exact ⟨wk9 7, _, rfl, rfl, by kernel_rfl, r11_0_h0_7.go hF h⟩
    · exact ⟨wk9 8, _, rfl, rfl, by kernel_rfl, r11_0_h0_8.go hF h⟩
    · exact ⟨wk9 9, _, rfl, rfl, by kernel_rfl, r11_0_h0_9.go hF h⟩
    · exact ⟨wk9 10, _, rfl, rfl, by kernel_rfl, r11_0_h0_10.go hF h⟩
    · exact ⟨wk9 11, _, rfl, rfl, by kernel_rfl, r11_0_h0_11.go hF h⟩
theorem tcC11_0 (hF : F9 fr) (h : G fr l c 100021 (hd 12) S12) : G fr l c 24 (a24 0 11) S11 :=
  (r11_0_24.go hF (r11_0_36.go hF (tcO11_0 hF (r11_0_t0.go hF (r11_0_h1.go hF (r11_0_t1.go hF (r11_0_h2.go hF (r11_0_t2.go hF (r11_0_e.go hF h)))))))))
theorem tcO11_1 (hF : F9 fr) (h : G fr l c 46 (a38 1 11 1) E11_1_2) : G fr l c 100038 (a38 1 11 1) E11_1_1 :=
  known (b := 75) (j := 18) (i := 25) (x := 4) (lo := 0) (hi := 11) (li := [1]) hF (by kernel_rfl) (fun s0 => by kernel_rfl) fun n h1 h2 => by
    have : n = 0 ∨ n = 1 ∨ n = 2 ∨ n = 3 ∨ n = 4 ∨ n = 5 ∨ n = 6 ∨ n = 7 ∨ n = 8 ∨ n = 9 ∨ n = 10 ∨ n = 11 := by omega
    rcases this with rfl | rfl | rfl | rfl | rfl | rfl | rfl | rfl | rfl | rfl | rfl | rfl
    · exact ⟨wk10 0, _, rfl, rfl, by kernel_rfl, r11_1_h1_0.go hF h⟩
    · exact ⟨wk10 1, _, rfl, rfl, by kernel_rfl, r11_1_h1_1.go hF h⟩
    · exact ⟨wk10 2, _, rfl, rfl, by kernel_rfl, r11_1_h1_2.go hF h⟩
    · exact ⟨wk10 3, _, rfl, rfl, by kernel_rfl, r11_1_h1_3.go hF h⟩
    · exact ⟨wk10 4, _, rfl, rfl, by kernel_rfl, r11_1_h1_4.go hF h⟩
    · exact ⟨wk10 5, _, rfl, rfl, by kernel_rfl, r11_1_h1_5.go hF h⟩
    · exact ⟨wk10 6, _, rfl, rfl, by kernel_rfl, r11_1_h1_6.go hF h⟩
    · exact ⟨wk10 7, _, rfl, rfl, by kernel_rfl, r11_1_h1_7.go hF h⟩
    · exact ⟨wk10 8, _, rfl, rfl, by kernel_rfl, r11_1_h1_8.go hF h⟩
    · exact ⟨wk10 9, _, rfl, rfl, by kernel_rfl, r11_1_h1_9.go hF h⟩
    · exact ⟨wk10 10, _, rfl, rfl, by kernel_rfl, r11_1_h1_10.go hF h⟩
    · exact ⟨wk10 11, _, rfl, rfl, by kernel_rfl, r11_1_h1_11.go hF h⟩
theorem tcC11_1 (hF : F9 fr) (h : G fr l c 100021 (hd 12) S12) : G fr l c 24 (a24 1 11) S11 :=
  (r11_1_24.go hF (r11_1_36.go hF (r11_1_h0.go hF (r11_1_t0.go hF (tcO11_1 hF (r11_1_t1.go hF (r11_1_h2.go hF (r11_1_t2.go hF (r11_1_e.go hF h)))))))))
theorem tcO11_2 (hF : F9 fr) (h : G fr l c 46 (a38 2 11 2) E11_2_3) : G fr l c 100038 (a38 2 11 2) E11_2_2 :=
  known (b := 76) (j := 19) (i := 25) (x := 4) (lo := 0) (hi := 11) (li := [2]) hF (by kernel_rfl) (fun s0 => by kernel_rfl) fun n h1 h2 => by
    have : n = 0 ∨ n = 1 ∨ n = 2 ∨ n = 3 ∨ n = 4 ∨ n = 5 ∨ n = 6 ∨ n = 7 ∨ n = 8 ∨ n = 9 ∨ n = 10 ∨ n = 11 := by omega
    rcases this with rfl | rfl | rfl | rfl | rfl | rfl | rfl | rfl | rfl | rfl | rfl | rfl
    · exact ⟨wk11 0, _, rfl, rfl, by kernel_rfl, r11_2_h2_0.go hF h⟩
    · exact ⟨wk11 1, _, rfl, rfl, by kernel_rfl, r11_2_h2_1.go hF h⟩
    · exact ⟨wk11 2, _, rfl, rfl, by kernel_rfl, r11_2_h2_2.go hF h⟩
    · exact ⟨wk11 3, _, rfl, rfl, by kernel_rfl, r11_2_h2_3.go hF h⟩
    · exact ⟨wk11 4, _, rfl, rfl, by kernel_rfl, r11_2_h2_4.go hF h⟩
    · exact ⟨wk11 5, _, rfl, rfl, by kernel_rfl, r11_2_h2_5.go hF h⟩
    · exact ⟨wk11 6, _, rfl, rfl, by kernel_rfl, r11_2_h2_6.go hF h⟩
    · exact ⟨wk11 7, _, rfl, rfl, by kernel_rfl, r11_2_h2_7.go hF h⟩
    · exact ⟨wk11 8, _, rfl, rfl, by kernel_rfl, r11_2_h2_8.go hF h⟩
    · exact ⟨wk11 9, _, rfl, rfl, by kernel_rfl, r11_2_h2_9.go hF h⟩
    · exact ⟨wk11 10, _, rfl, rfl, by kernel_rfl, r11_2_h2_10.go hF h⟩
    · exact ⟨wk11 11, _, rfl, rfl, by kernel_rfl, r11_2_h2_11.go hF h⟩
theorem tcC11_2 (hF : F9 fr) (h : G fr l c 100021 (hd 12) S12) : G fr l c 24 (a24 2 11) S11 :=
  (r11_2_24.go hF (r11_2_36.go hF (r11_2_h0.go hF (r11_2_t0.go hF (r11_2_h1.go hF (r11_2_t1.go hF (tcO11_2 hF (r11_2_t2.go hF (r11_2_e.go hF h)))))))))
end
end Go.Proofs.YtgnkjpbecgpjoaaGreatDoor
