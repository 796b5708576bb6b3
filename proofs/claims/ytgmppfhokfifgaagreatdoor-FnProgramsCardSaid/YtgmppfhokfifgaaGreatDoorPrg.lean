/-
  Contracts: LeastWidth and KindCounts of the program and of the reference.
-/
import Derived.Test.YtgmppfhokfifgaaGreatDoorPo3
import Derived.Test.YtgmppfhokfifgaaGreatDoorInts
import Derived.Test.YtgmppfhokfifgaaGreatDoorMm
import Derived.Lib.QuietBelow
namespace Go.Proofs.YtgmppfhokfifgaaGreatDoor
set_option maxRecDepth 10000
open Go.RowKit

theorem gi_set_same {xs : List Int} {k : Nat} (h : k < xs.length) (x : Int) : gi (xs.set k x) k = x := by simp [gi, List.getD, h]
theorem gi_set_ne {xs : List Int} {k j : Nat} (h : k ≠ j) (x : Int) : gi (xs.set k x) j = gi xs j := by simp [gi, List.getD, h]
theorem op_bds {o : List Int} (h : opB o = true) : (1 ≤ gi o 0 ∧ gi o 0 ≤ 9) ∧ (-1 ≤ gi o 1 ∧ gi o 1 ≤ 1) ∧ (0 ≤ gi o 2 ∧ gi o 2 ≤ 2) ∧ (0 ≤ gi o 3 ∧ gi o 3 ≤ 23) ∧ (0 ≤ gi o 4 ∧ gi o 4 ≤ 2) ∧ (0 ≤ gi o 5 ∧ gi o 5 ≤ 23) ∧ (0 ≤ gi o 6 ∧ gi o 6 ≤ 4) ∧ (-3 ≤ gi o 7 ∧ gi o 7 ≤ 3) := by
  unfold opB at h
  generalize gi o 0 = k at *
  generalize gi o 1 = d at *
  generalize gi o 2 = fb at *
  generalize gi o 3 = fa at *
  generalize gi o 4 = tb at *
  generalize gi o 5 = ta at *
  generalize gi o 6 = c at *
  generalize gi o 7 = r at *
  unfold vOp at h
  split at h
  · simp only [Bool.and_eq_true, dirB_iff, ndlB_iff, inR_iff, beq_iff_eq] at h
    omega
  split at h
  · simp only [Bool.and_eq_true, pairB, ndlB_iff, beq_iff_eq] at h
    omega
  split at h
  · simp only [Bool.and_eq_true, pairB, dirB_iff, ndlB_iff, inR_iff, beq_iff_eq] at h
    omega
  split at h
  · simp only [Bool.and_eq_true, ndlB_iff, beq_iff_eq] at h
    omega
  split at h
  · simp only [Bool.and_eq_true, inR_iff, beq_iff_eq] at h
    omega
  split at h
  · simp only [Bool.and_eq_true, dirB_iff, inR_iff, beq_iff_eq] at h
    omega
  split at h
  · simp only [Bool.and_eq_true, inR_iff, beq_iff_eq] at h
    omega
  · cases h
theorem okOps_parts {n : Int} {os : List (List Int)} (h : okOps n os = true) : (1 ≤ n ∧ n ≤ 24) ∧ os.length ≤ 1500 ∧ ∀ j, j < os.length → opB (gl os j) = true ∧ gi (gl os j) 3 < n ∧ gi (gl os j) 5 < n := by
  simp only [okOps, Bool.and_eq_true, decide_eq_true_eq] at h
  refine ⟨inR_iff.1 h.1.1, h.1.2, fun j hj => ?_⟩
  have := all_iff.1 h.2 j hj
  simpa [fitB] using this
def lw1 (w : Int) (o : List Int) : Int := max w (max (gi o 3) (gi o 5) + 1)
def lwUp (os : List (List Int)) : Nat → Int
  | 0 => 1
  | k + 1 => lw1 (lwUp os k) (gl os k)
def lwA (os : List (List Int)) : Int := if okOps 24 os = true then lwUp os os.length else 0
theorem lwUp_bd {os : List (List Int)} (h : okOps 24 os = true) (k : Nat) (hk : k ≤ os.length) : 1 ≤ lwUp os k ∧ lwUp os k ≤ 24 := by
  induction k with
  | zero => simp [lwUp]
  | succ k ih =>
    have := ih (by omega)
    have hb := (okOps_parts h).2.2 k (by omega)
    have := op_bds hb.1
    simp only [lwUp, lw1]
    omega
set_option maxHeartbeats 800000 in
theorem impl_LeastWidth_any (v : Value) (os : List (List Int)) (B : Nat) (w : World) (h : SlR 8 w B v os) (hB : B ≤ w.heap.size) :
    Calls Tryz.prog 17 #[v] w fun e w' => e = .returned (.int .i64 (lwA os)) ∧ Below w.heap.size w w' := by
  obtain ⟨A, c, rfl, hl, hm, -, hcells⟩ := id h
  unfold maxLen at hm
  have HC := Lib.hid hcells
  clear hcells
  cases hok : okOps 24 os
  · have HE := Lib.hid (show lwA os = 0 by simp [lwA, hok])
    go_enter Tryz.func17, Tryz.ntmps17
    go_wp2_with (go_at_call 28; refine (is_below hok (validFor_any 24 _ os B _ h hB)).mono ?_; rintro e w1 ⟨rfl, hb⟩)
    go_ret
    exact ⟨by rw [HE.out]; rfl, hb⟩
  · have HE := Lib.hid (show lwA os = lwUp os os.length by simp [lwA, hok])
    have HK := Lib.hid hok
    go_enter Tryz.func17, Tryz.ntmps17
    go_wp2_with (go_at_call 28; refine (is_below hok (validFor_any 24 _ os B _ h hB)).mono ?_; rintro e w1 ⟨rfl, hb⟩)
    go_loopw [3, 11] (fun x i wr => ∃ k : Nat, k ≤ os.length ∧ i = .int .i64 k ∧ x = .int .i64 (lwUp os k) ∧ Below w.heap.size w wr) (fun _ i _ => os.length - (intOf i).toNat)
    case atStart => exact ⟨0, Nat.zero_le _, rfl, rfl, hb⟩
    case round =>
      obtain ⟨k, hk, rfl, rfl, hb1⟩ := hrel
      by_cases hlt : k < os.length
      · obtain ⟨b, off, rfl, hbB, hcell⟩ := HC.out (by omega)
        obtain ⟨q0, q1, q2, q3, q4, q5, q6, q7⟩ := opAt_of (fun j hj => (show wr.cell? ⟨b, off + k * 8 + j, none⟩ = some (.int .i64 (gi (gl os k) j)) by rw [hb1.cell (by simp only; omega)]; exact hcell k hlt j hj))
        have hw := lwUp_bd HK.out k hk
        obtain ⟨-, -, -, ⟨x1, x2⟩, -, ⟨x3, x4⟩, -, -⟩ := op_bds ((okOps_parts HK.out).2.2 k hlt).1
        have HS := Lib.hid (show lwUp os (k + 1) = lw1 (lwUp os k) (gl os k) from rfl)
        have HW1 := Lib.hid (show lw1 (lwUp os k) (gl os k) = max (lwUp os k) (max (gi (gl os k) 3) (gi (gl os k) 5) + 1) from rfl)
        have ha := al1 wr (.cells #[.int .i64 (gi (gl os k) 0), .int .i64 (gi (gl os k) 1), .int .i64 (gi (gl os k) 2), .int .i64 (gi (gl os k) 3), .int .i64 (gi (gl os k) 4), .int .i64 (gi (gl os k) 5), .int .i64 (gi (gl os k) 6), .int .i64 (gi (gl os k) 7)] 38)
        clear hcell
        generalize hL : lwUp os k = L at *
        go_wp2
        go_roundw
        case rel => exact ⟨k + 1, by omega, by go_num, by rw [HS.out, HW1.out]; congr 1; (repeat split) <;> omega, hb1.trans (ha.mono hb1.size)⟩
        case measure => simp [intOf]; omega
      · obtain rfl : k = os.length := by omega
        go_wp2
        go_ret
        exact ⟨by rw [HE.out]; rfl, hb1⟩
end Go.Proofs.YtgmppfhokfifgaaGreatDoor
