/-
  Proved here: for every input the law FnExactPassOf returns true, and every argument reads behind the call as it read before. No condition.
-/
import Derived.Test.YtpiodiliifnckaaOpen
import Derived.Test.YtpiodiliifnckaaPo4
import Derived.Test.YtpiodiliifnckaaPs4
import Derived.ProofKit
import Derived.OpenShut
import Derived.ShutString
import Derived.ChangeOld
import Derived.Below
import Derived.Deep.RegionHeld3
import Derived.Deep.DeepCutAuto
namespace Go.Proofs.Ytpiodiliifnckaa.fnExactPassOf
set_option maxRecDepth 10000
open Go.ChangeShapes Go.WideShapes Go.ChangeAt Go.RowKit
open Go.ChangeMaps (open_string shut_string)
set_option linter.unusedVariables false

set_option maxRecDepth 100000 in
set_option maxHeartbeats 4000000 in
theorem walk (v0 : Value) (os : List (List Int)) (k : Int) (w : World) (h0 : SlR 8 w w.heap.size v0 os) (b0 : ∀ o ∈ os, ∀ n ∈ o, R64 n) (b1 : R64 k) :
    Calls Try.prog 9 #[v0, .int .i64 k] w fun e w' => e = .returned (.bool true) ∧ Below w.heap.size w w' := by
  obtain ⟨A0, c0, e0, hl0, hm0⟩ : ∃ A c, v0 = .slice A os.length c ∧ os.length ≤ c ∧ c ≤ 9223372036854775807 := by obtain ⟨A, c, h1, h2, h3, _⟩ := h0; simp only [maxLen] at h3; exact ⟨A, c, h1, h2, by omega⟩
  subst e0
  have hA0 : Below w.heap.size w w := (Below.refl w.heap.size w)
  have hB0 : w.heap.size ≤ w.heap.size := hA0.size
  have g0 := h0.below hA0 (Nat.le_refl _)
  clear h0
  have hb0 := Below.refl w.heap.size w
  have hS0 : Hs w w.heap.size [] := Hs.nil _
  by_cases z0 : (1048576 : Int) < os.length
  · go_enter Try.func9, Try.ntmps9
    go_wp2_with fail
    refine (szOps_no (g0.below hb0 hB0) (by omega) (by omega) z0).mono ?_
    rintro e w1 ⟨rfl, hq⟩
    have hb1 := hb0.trans (hq.mono hb0.size)
    have hS1 := hS0.below hq
    clear hb0 hS0 hq
    go_wp2_with fail
    go_ret
    exact ⟨rfl, hA0.trans (hb1.mono hB0)⟩
  have zl0 : (os.length : Int) ≤ 1048576 := by omega
  go_enter Try.func9, Try.ntmps9
  go_wp2_with fail
  refine (szOps_yes (g0.below hb0 hB0) (by omega) (by omega) (by omega)).mono ?_
  rintro e w1 ⟨rfl, hq⟩
  have hb1 := hb0.trans (hq.mono hb0.size)
  have hS1 := hS0.below hq
  clear hb0 hS0 hq
  go_wp2_with fail
  refine (toOps_any (g0.below hb1 hB0) (Nat.le_trans hB0 hb1.size) (by omega)).mono ?_
  rintro e w2 ⟨q2_0, rfl, ho2, hq⟩
  have hb2 := hb1.trans (hq.mono hb1.size)
  have hS2 := hS1.join hq (hs_owt ho2 hq)
  clear hb1 hS1 hq ho2
  obtain ⟨A2_0, c2_0, rfl, -⟩ := id (Hs.rdT [] [] hS2)
  go_wp2_with fail
  refine (spec_PassOf_any _ os k _ _ (Hs.rdT [] [] hS2) (Nat.le_refl _)).mono ?_
  rintro e w3 ⟨rfl, hq⟩
  have hb3 := hb2.trans (hq.mono hb2.size)
  have hS3 := hS2.below hq
  clear hb2 hS2 hq
  go_wp2_with fail
  have hS3b1 := hS3.join (al1 _ _) (hs_bx w3 #[.int .i64 (gi (poA os k).1 0), .int .i64 (gi (poA os k).1 1), .int .i64 (gi (poA os k).1 2), .int .i64 (gi (poA os k).1 3), .int .i64 (gi (poA os k).1 4), .int .i64 (gi (poA os k).1 5)] 42)
  have hb3b1 := hb3.trans ((al1 w3 (.cells #[.int .i64 (gi (poA os k).1 0), .int .i64 (gi (poA os k).1 1), .int .i64 (gi (poA os k).1 2), .int .i64 (gi (poA os k).1 3), .int .i64 (gi (poA os k).1 4), .int .i64 (gi (poA os k).1 5)] 42)).mono hb3.size)
  clear hb3 hS3
  generalize hg3b1 : w3.heap.size = g3b1 at *
  generalize hw3b1 : w3.alloc (.cells #[.int .i64 (gi (poA os k).1 0), .int .i64 (gi (poA os k).1 1), .int .i64 (gi (poA os k).1 2), .int .i64 (gi (poA os k).1 3), .int .i64 (gi (poA os k).1 4), .int .i64 (gi (poA os k).1 5)] 42) = w4 at *
  clear hg3b1 hw3b1
  have hS4 := hS3b1
  have hb4 := hb3b1
  clear hS3b1 hb3b1
  refine (toOps_any (g0.below hb4 hB0) (Nat.le_trans hB0 hb4.size) (by omega)).mono ?_
  rintro e w5 ⟨q5_0, rfl, ho5, hq⟩
  have hb5 := hb4.trans (hq.mono hb4.size)
  have hS5 := hS4.join hq (hs_owt ho5 hq)
  clear hb4 hS4 hq ho5
  obtain ⟨A5_0, c5_0, rfl, -⟩ := id (Hs.rdT [rt_ 8 52 (.slice A2_0 (os).length c2_0) (os), bx_ g3b1 #[.int .i64 (gi (poA os k).1 0), .int .i64 (gi (poA os k).1 1), .int .i64 (gi (poA os k).1 2), .int .i64 (gi (poA os k).1 3), .int .i64 (gi (poA os k).1 4), .int .i64 (gi (poA os k).1 5)] 42] [] hS5)
  obtain ⟨kx3b1, -, lx3b1, -⟩ := Hs.bx [rt_ 8 52 (.slice A2_0 (os).length c2_0) (os)] [rt_ 8 52 (.slice A5_0 (os).length c5_0) (os)] hS5
  have kx3b1_0 : w5.cell? ⟨g3b1, 0, none⟩ = some (.int .i64 (gi (poA os k).1 0)) := kx3b1 0
  have kx3b1_1 : w5.cell? ⟨g3b1, 1, none⟩ = some (.int .i64 (gi (poA os k).1 1)) := kx3b1 1
  have kx3b1_2 : w5.cell? ⟨g3b1, 2, none⟩ = some (.int .i64 (gi (poA os k).1 2)) := kx3b1 2
  have kx3b1_3 : w5.cell? ⟨g3b1, 3, none⟩ = some (.int .i64 (gi (poA os k).1 3)) := kx3b1 3
  have kx3b1_4 : w5.cell? ⟨g3b1, 4, none⟩ = some (.int .i64 (gi (poA os k).1 4)) := kx3b1 4
  have kx3b1_5 : w5.cell? ⟨g3b1, 5, none⟩ = some (.int .i64 (gi (poA os k).1 5)) := kx3b1 5
  clear kx3b1
  go_wp2_with fail
  clear kx3b1_0 kx3b1_1 kx3b1_2 kx3b1_3 kx3b1_4 kx3b1_5 lx3b1
  refine (impl_PassOf_any _ os k _ _ (Hs.rdT [rt_ 8 52 (.slice A2_0 (os).length c2_0) (os), bx_ g3b1 #[.int .i64 (gi (poA os k).1 0), .int .i64 (gi (poA os k).1 1), .int .i64 (gi (poA os k).1 2), .int .i64 (gi (poA os k).1 3), .int .i64 (gi (poA os k).1 4), .int .i64 (gi (poA os k).1 5)] 42] [] hS5) (Nat.le_refl _)).mono ?_
  rintro e w6 ⟨rfl, hq⟩
  have hb6 := hb5.trans (hq.mono hb5.size)
  have hS6 := hS5.below hq
  clear hb5 hS5 hq
  obtain ⟨kx3b1, -, lx3b1, -⟩ := Hs.bx [rt_ 8 52 (.slice A2_0 (os).length c2_0) (os)] [rt_ 8 52 (.slice A5_0 (os).length c5_0) (os)] hS6
  have kx3b1_0 : w6.cell? ⟨g3b1, 0, none⟩ = some (.int .i64 (gi (poA os k).1 0)) := kx3b1 0
  have kx3b1_1 : w6.cell? ⟨g3b1, 1, none⟩ = some (.int .i64 (gi (poA os k).1 1)) := kx3b1 1
  have kx3b1_2 : w6.cell? ⟨g3b1, 2, none⟩ = some (.int .i64 (gi (poA os k).1 2)) := kx3b1 2
  have kx3b1_3 : w6.cell? ⟨g3b1, 3, none⟩ = some (.int .i64 (gi (poA os k).1 3)) := kx3b1 3
  have kx3b1_4 : w6.cell? ⟨g3b1, 4, none⟩ = some (.int .i64 (gi (poA os k).1 4)) := kx3b1 4
  have kx3b1_5 : w6.cell? ⟨g3b1, 5, none⟩ = some (.int .i64 (gi (poA os k).1 5)) := kx3b1 5
  clear kx3b1
  go_wp2_with fail
  clear kx3b1_0 kx3b1_1 kx3b1_2 kx3b1_3 kx3b1_4 kx3b1_5 lx3b1
  have hS6b2 := hS6.join (al1 _ _) (hs_bx w6 #[.int .i64 (gi (poA os k).1 0), .int .i64 (gi (poA os k).1 1), .int .i64 (gi (poA os k).1 2), .int .i64 (gi (poA os k).1 3), .int .i64 (gi (poA os k).1 4), .int .i64 (gi (poA os k).1 5)] 42)
  have hb6b2 := hb6.trans ((al1 w6 (.cells #[.int .i64 (gi (poA os k).1 0), .int .i64 (gi (poA os k).1 1), .int .i64 (gi (poA os k).1 2), .int .i64 (gi (poA os k).1 3), .int .i64 (gi (poA os k).1 4), .int .i64 (gi (poA os k).1 5)] 42)).mono hb6.size)
  clear hb6 hS6
  generalize hg6b2 : w6.heap.size = g6b2 at *
  generalize hw6b2 : w6.alloc (.cells #[.int .i64 (gi (poA os k).1 0), .int .i64 (gi (poA os k).1 1), .int .i64 (gi (poA os k).1 2), .int .i64 (gi (poA os k).1 3), .int .i64 (gi (poA os k).1 4), .int .i64 (gi (poA os k).1 5)] 42) = w7 at *
  clear hg6b2 hw6b2
  have hS7 := hS6b2
  have hb7 := hb6b2
  clear hS6b2 hb6b2
  refine (eqPass_yes _ _ _ _ _ _ _).mono ?_
  rintro e w8 ⟨rfl, hq⟩
  have hb8 := hb7.trans (hq.mono hb7.size)
  have hS8 := hS7.below hq
  clear hb7 hS7 hq
  obtain ⟨kx3b1, -, lx3b1, -⟩ := Hs.bx [rt_ 8 52 (.slice A2_0 (os).length c2_0) (os)] [rt_ 8 52 (.slice A5_0 (os).length c5_0) (os), bx_ g6b2 #[.int .i64 (gi (poA os k).1 0), .int .i64 (gi (poA os k).1 1), .int .i64 (gi (poA os k).1 2), .int .i64 (gi (poA os k).1 3), .int .i64 (gi (poA os k).1 4), .int .i64 (gi (poA os k).1 5)] 42] hS8
  have kx3b1_0 : w8.cell? ⟨g3b1, 0, none⟩ = some (.int .i64 (gi (poA os k).1 0)) := kx3b1 0
  have kx3b1_1 : w8.cell? ⟨g3b1, 1, none⟩ = some (.int .i64 (gi (poA os k).1 1)) := kx3b1 1
  have kx3b1_2 : w8.cell? ⟨g3b1, 2, none⟩ = some (.int .i64 (gi (poA os k).1 2)) := kx3b1 2
  have kx3b1_3 : w8.cell? ⟨g3b1, 3, none⟩ = some (.int .i64 (gi (poA os k).1 3)) := kx3b1 3
  have kx3b1_4 : w8.cell? ⟨g3b1, 4, none⟩ = some (.int .i64 (gi (poA os k).1 4)) := kx3b1 4
  have kx3b1_5 : w8.cell? ⟨g3b1, 5, none⟩ = some (.int .i64 (gi (poA os k).1 5)) := kx3b1 5
  clear kx3b1
  obtain ⟨kx6b2, -, lx6b2, -⟩ := Hs.bx [rt_ 8 52 (.slice A2_0 (os).length c2_0) (os), bx_ g3b1 #[.int .i64 (gi (poA os k).1 0), .int .i64 (gi (poA os k).1 1), .int .i64 (gi (poA os k).1 2), .int .i64 (gi (poA os k).1 3), .int .i64 (gi (poA os k).1 4), .int .i64 (gi (poA os k).1 5)] 42, rt_ 8 52 (.slice A5_0 (os).length c5_0) (os)] [] hS8
  have kx6b2_0 : w8.cell? ⟨g6b2, 0, none⟩ = some (.int .i64 (gi (poA os k).1 0)) := kx6b2 0
  have kx6b2_1 : w8.cell? ⟨g6b2, 1, none⟩ = some (.int .i64 (gi (poA os k).1 1)) := kx6b2 1
  have kx6b2_2 : w8.cell? ⟨g6b2, 2, none⟩ = some (.int .i64 (gi (poA os k).1 2)) := kx6b2 2
  have kx6b2_3 : w8.cell? ⟨g6b2, 3, none⟩ = some (.int .i64 (gi (poA os k).1 3)) := kx6b2 3
  have kx6b2_4 : w8.cell? ⟨g6b2, 4, none⟩ = some (.int .i64 (gi (poA os k).1 4)) := kx6b2 4
  have kx6b2_5 : w8.cell? ⟨g6b2, 5, none⟩ = some (.int .i64 (gi (poA os k).1 5)) := kx6b2 5
  clear kx6b2
  go_wp2_with fail
  clear kx3b1_0 kx3b1_1 kx3b1_2 kx3b1_3 kx3b1_4 kx3b1_5 lx3b1 kx6b2_0 kx6b2_1 kx6b2_2 kx6b2_3 kx6b2_4 kx6b2_5 lx6b2
  refine (toOps_any (g0.below hb8 hB0) (Nat.le_trans hB0 hb8.size) (by omega)).mono ?_
  rintro e w9 ⟨q9_0, rfl, ho9, hq⟩
  have hb9 := hb8.trans (hq.mono hb8.size)
  have hS9 := hS8.join hq (hs_owt ho9 hq)
  clear hb8 hS8 hq ho9
  obtain ⟨A9_0, c9_0, rfl, -⟩ := id (Hs.rdT [rt_ 8 52 (.slice A2_0 (os).length c2_0) (os), bx_ g3b1 #[.int .i64 (gi (poA os k).1 0), .int .i64 (gi (poA os k).1 1), .int .i64 (gi (poA os k).1 2), .int .i64 (gi (poA os k).1 3), .int .i64 (gi (poA os k).1 4), .int .i64 (gi (poA os k).1 5)] 42, rt_ 8 52 (.slice A5_0 (os).length c5_0) (os), bx_ g6b2 #[.int .i64 (gi (poA os k).1 0), .int .i64 (gi (poA os k).1 1), .int .i64 (gi (poA os k).1 2), .int .i64 (gi (poA os k).1 3), .int .i64 (gi (poA os k).1 4), .int .i64 (gi (poA os k).1 5)] 42] [] hS9)
  obtain ⟨kx3b1, -, lx3b1, -⟩ := Hs.bx [rt_ 8 52 (.slice A2_0 (os).length c2_0) (os)] [rt_ 8 52 (.slice A5_0 (os).length c5_0) (os), bx_ g6b2 #[.int .i64 (gi (poA os k).1 0), .int .i64 (gi (poA os k).1 1), .int .i64 (gi (poA os k).1 2), .int .i64 (gi (poA os k).1 3), .int .i64 (gi (poA os k).1 4), .int .i64 (gi (poA os k).1 5)] 42, rt_ 8 52 (.slice A9_0 (os).length c9_0) (os)] hS9
  have kx3b1_0 : w9.cell? ⟨g3b1, 0, none⟩ = some (.int .i64 (gi (poA os k).1 0)) := kx3b1 0
  have kx3b1_1 : w9.cell? ⟨g3b1, 1, none⟩ = some (.int .i64 (gi (poA os k).1 1)) := kx3b1 1
  have kx3b1_2 : w9.cell? ⟨g3b1, 2, none⟩ = some (.int .i64 (gi (poA os k).1 2)) := kx3b1 2
  have kx3b1_3 : w9.cell? ⟨g3b1, 3, none⟩ = some (.int .i64 (gi (poA os k).1 3)) := kx3b1 3
  have kx3b1_4 : w9.cell? ⟨g3b1, 4, none⟩ = some (.int .i64 (gi (poA os k).1 4)) := kx3b1 4
  have kx3b1_5 : w9.cell? ⟨g3b1, 5, none⟩ = some (.int .i64 (gi (poA os k).1 5)) := kx3b1 5
  clear kx3b1
  obtain ⟨kx6b2, -, lx6b2, -⟩ := Hs.bx [rt_ 8 52 (.slice A2_0 (os).length c2_0) (os), bx_ g3b1 #[.int .i64 (gi (poA os k).1 0), .int .i64 (gi (poA os k).1 1), .int .i64 (gi (poA os k).1 2), .int .i64 (gi (poA os k).1 3), .int .i64 (gi (poA os k).1 4), .int .i64 (gi (poA os k).1 5)] 42, rt_ 8 52 (.slice A5_0 (os).length c5_0) (os)] [rt_ 8 52 (.slice A9_0 (os).length c9_0) (os)] hS9
  have kx6b2_0 : w9.cell? ⟨g6b2, 0, none⟩ = some (.int .i64 (gi (poA os k).1 0)) := kx6b2 0
  have kx6b2_1 : w9.cell? ⟨g6b2, 1, none⟩ = some (.int .i64 (gi (poA os k).1 1)) := kx6b2 1
  have kx6b2_2 : w9.cell? ⟨g6b2, 2, none⟩ = some (.int .i64 (gi (poA os k).1 2)) := kx6b2 2
  have kx6b2_3 : w9.cell? ⟨g6b2, 3, none⟩ = some (.int .i64 (gi (poA os k).1 3)) := kx6b2 3
  have kx6b2_4 : w9.cell? ⟨g6b2, 4, none⟩ = some (.int .i64 (gi (poA os k).1 4)) := kx6b2 4
  have kx6b2_5 : w9.cell? ⟨g6b2, 5, none⟩ = some (.int .i64 (gi (poA os k).1 5)) := kx6b2 5
  clear kx6b2
  go_wp2_with fail
  clear kx3b1_0 kx3b1_1 kx3b1_2 kx3b1_3 kx3b1_4 kx3b1_5 lx3b1 kx6b2_0 kx6b2_1 kx6b2_2 kx6b2_3 kx6b2_4 kx6b2_5 lx6b2
  refine (eqOps_yes (Hs.rdT [rt_ 8 52 (.slice A2_0 (os).length c2_0) (os), bx_ g3b1 #[.int .i64 (gi (poA os k).1 0), .int .i64 (gi (poA os k).1 1), .int .i64 (gi (poA os k).1 2), .int .i64 (gi (poA os k).1 3), .int .i64 (gi (poA os k).1 4), .int .i64 (gi (poA os k).1 5)] 42] [bx_ g6b2 #[.int .i64 (gi (poA os k).1 0), .int .i64 (gi (poA os k).1 1), .int .i64 (gi (poA os k).1 2), .int .i64 (gi (poA os k).1 3), .int .i64 (gi (poA os k).1 4), .int .i64 (gi (poA os k).1 5)] 42, rt_ 8 52 (.slice A9_0 (os).length c9_0) (os)] hS9) (Hs.rdT [rt_ 8 52 (.slice A2_0 (os).length c2_0) (os), bx_ g3b1 #[.int .i64 (gi (poA os k).1 0), .int .i64 (gi (poA os k).1 1), .int .i64 (gi (poA os k).1 2), .int .i64 (gi (poA os k).1 3), .int .i64 (gi (poA os k).1 4), .int .i64 (gi (poA os k).1 5)] 42, rt_ 8 52 (.slice A5_0 (os).length c5_0) (os), bx_ g6b2 #[.int .i64 (gi (poA os k).1 0), .int .i64 (gi (poA os k).1 1), .int .i64 (gi (poA os k).1 2), .int .i64 (gi (poA os k).1 3), .int .i64 (gi (poA os k).1 4), .int .i64 (gi (poA os k).1 5)] 42] [] hS9) (Nat.le_refl _) (Nat.le_refl _)).mono ?_
  rintro e w10 ⟨rfl, hq⟩
  have hb10 := hb9.trans (hq.mono hb9.size)
  have hS10 := hS9.below hq
  clear hb9 hS9 hq
  obtain ⟨kx3b1, -, lx3b1, -⟩ := Hs.bx [rt_ 8 52 (.slice A2_0 (os).length c2_0) (os)] [rt_ 8 52 (.slice A5_0 (os).length c5_0) (os), bx_ g6b2 #[.int .i64 (gi (poA os k).1 0), .int .i64 (gi (poA os k).1 1), .int .i64 (gi (poA os k).1 2), .int .i64 (gi (poA os k).1 3), .int .i64 (gi (poA os k).1 4), .int .i64 (gi (poA os k).1 5)] 42, rt_ 8 52 (.slice A9_0 (os).length c9_0) (os)] hS10
  have kx3b1_0 : w10.cell? ⟨g3b1, 0, none⟩ = some (.int .i64 (gi (poA os k).1 0)) := kx3b1 0
  have kx3b1_1 : w10.cell? ⟨g3b1, 1, none⟩ = some (.int .i64 (gi (poA os k).1 1)) := kx3b1 1
  have kx3b1_2 : w10.cell? ⟨g3b1, 2, none⟩ = some (.int .i64 (gi (poA os k).1 2)) := kx3b1 2
  have kx3b1_3 : w10.cell? ⟨g3b1, 3, none⟩ = some (.int .i64 (gi (poA os k).1 3)) := kx3b1 3
  have kx3b1_4 : w10.cell? ⟨g3b1, 4, none⟩ = some (.int .i64 (gi (poA os k).1 4)) := kx3b1 4
  have kx3b1_5 : w10.cell? ⟨g3b1, 5, none⟩ = some (.int .i64 (gi (poA os k).1 5)) := kx3b1 5
  clear kx3b1
  obtain ⟨kx6b2, -, lx6b2, -⟩ := Hs.bx [rt_ 8 52 (.slice A2_0 (os).length c2_0) (os), bx_ g3b1 #[.int .i64 (gi (poA os k).1 0), .int .i64 (gi (poA os k).1 1), .int .i64 (gi (poA os k).1 2), .int .i64 (gi (poA os k).1 3), .int .i64 (gi (poA os k).1 4), .int .i64 (gi (poA os k).1 5)] 42, rt_ 8 52 (.slice A5_0 (os).length c5_0) (os)] [rt_ 8 52 (.slice A9_0 (os).length c9_0) (os)] hS10
  have kx6b2_0 : w10.cell? ⟨g6b2, 0, none⟩ = some (.int .i64 (gi (poA os k).1 0)) := kx6b2 0
  have kx6b2_1 : w10.cell? ⟨g6b2, 1, none⟩ = some (.int .i64 (gi (poA os k).1 1)) := kx6b2 1
  have kx6b2_2 : w10.cell? ⟨g6b2, 2, none⟩ = some (.int .i64 (gi (poA os k).1 2)) := kx6b2 2
  have kx6b2_3 : w10.cell? ⟨g6b2, 3, none⟩ = some (.int .i64 (gi (poA os k).1 3)) := kx6b2 3
  have kx6b2_4 : w10.cell? ⟨g6b2, 4, none⟩ = some (.int .i64 (gi (poA os k).1 4)) := kx6b2 4
  have kx6b2_5 : w10.cell? ⟨g6b2, 5, none⟩ = some (.int .i64 (gi (poA os k).1 5)) := kx6b2 5
  clear kx6b2
  go_wp2_with fail
  clear kx3b1_0 kx3b1_1 kx3b1_2 kx3b1_3 kx3b1_4 kx3b1_5 lx3b1 kx6b2_0 kx6b2_1 kx6b2_2 kx6b2_3 kx6b2_4 kx6b2_5 lx6b2
  go_ret
  exact ⟨rfl, hA0.trans (hb10.mono hB0)⟩

set_option maxRecDepth 100000 in
theorem lifted (os : Os) (started : os.Started) (H : Type) (enc : TypeId × Value → H) :
    ReturnsInHanded {} Try.checked os 9 .any (Rows.fnExactPassOfSpec.pre6 enc Try.prog Try.f9 Rows.fnExactPassOfRow.domain false) (Rows.fnExactPassOfSpec.post enc Try.prog Try.f9 false true false false) := by
  refine returnsInHanded_of_change (C := Try.checked) own_knob started (by kernel_rfl) Try.func9
    (ChangeSpec.witness6 (enc := enc) (C := Try.checked) false ⟨#[], #[.slice none 0 0, .int .i64 0], []⟩ 8 (by kernel_rfl) (by kernel_rfl) (by kernel_rfl) (by kernel_rfl)) ?_
  intro W base args ds gs before hval0 hW hcnd _
  have hval : ∀ (j : Nat) t v, Try.f9.params[j]? = some t → args[j]? = some v → Value.okWide Try.prog W .any base t v := hval0
  have hW' := hW
  obtain ⟨p, q, hA0, hV, rfl, hfz, hnd⟩ := hW
  have hA : DataW.TrodAll enc Try.prog W 0 (fun _ => true) true Try.f9.params.toList args.toList ds p := hA0
  rw [Try.params9] at hA hval
  obtain ⟨v0, vs0, d0, ds0, p0, q0, hargs, rfl, rfl, h0, r0⟩ := trodAll_cons hA
  obtain ⟨v1, vs1, d1, ds1, p1, q1, rfl, rfl, rfl, h1, r1⟩ := trodAll_cons r0
  obtain ⟨rfl, rfl, rfl⟩ := trodAll_nil r1
  obtain rfl : args = #[v0, v1] := by cases args; simp_all
  obtain ⟨rfl, rfl⟩ := trodVars_none hV
  have k0 := h0
  have lt0 : ∀ x ∈ p0, x.block < W.heap.size := by obtain ⟨m, hm⟩ := k0; exact DataW.trod_lt m _ _ _ hm
  have k1 := h1
  have lt1 : ∀ x ∈ p1, x.block < W.heap.size := by obtain ⟨m, hm⟩ := k1; exact DataW.trod_lt m _ _ _ hm
  obtain ⟨os, s0, b0⟩ := open_SlO (hval 0 22 v0 rfl rfl) h0
  obtain ⟨k, rfl, b1⟩ := open_I (hval 1 2 v1 rfl rfl) h1
  clear hA0 hval0
  refine (walk v0 os k W s0 b0 b1).mono fun e W' ⟨he, bel⟩ => ?_
  subst he
  exact ⟨_, rfl, _, _, _, [], _, [], hW', trodAll_mk1 (shut_bool Try.underlying4 _), (trodAll_cons_mk (Below.trod laid_out (by kernel_rfl) (of_decide_eq_true (by kernel_rfl)) k0 bel lt0) (trodAll_cons_mk (Below.trod laid_out (by kernel_rfl) (of_decide_eq_true (by kernel_rfl)) k1 bel lt1) trodAll_mk0)), rfl, bel.frame _, fun h => by cases h⟩

/-- The statement. -/
theorem proved : Rows.FnExactPassOfSaid :=
  OpenClaim.holds_of_wide 9 Try.f9 rfl rfl rfl rfl rfl rfl rfl ⟨rfl, rfl, rfl, rfl, rfl⟩ rfl rfl rfl rfl rfl (by kernel_rfl) Try.func9 (by kernel_rfl)
    (of_decide_eq_true (by kernel_rfl)) (by unfold Func.isWrapper; first | (rw [if_pos (by decide +kernel)]; kernel_rfl) | (rw [if_neg (by decide +kernel)]; exact ⟨rfl, rfl⟩))
    (fun os started H enc _ => lifted os started H enc)
#print axioms proved
end Go.Proofs.Ytpiodiliifnckaa.fnExactPassOf
