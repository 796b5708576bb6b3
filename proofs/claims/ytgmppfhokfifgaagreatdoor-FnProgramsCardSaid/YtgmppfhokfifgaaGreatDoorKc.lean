/-
  Contracts: KindCounts of the program and of the reference.
-/
import Derived.Test.YtgmppfhokfifgaaGreatDoorPrg
namespace Go.Proofs.YtgmppfhokfifgaaGreatDoor
set_option maxRecDepth 10000
open Go.RowKit

def kcUp (os : List (List Int)) : Nat → List Int
  | 0 => List.replicate 9 0
  | k + 1 => (kcUp os k).set (gi (gl os k) 0 - 1).toNat (gi (kcUp os k) (gi (gl os k) 0 - 1).toNat + 1)
def kcA (os : List (List Int)) : List Int := if okOps 24 os = true then kcUp os os.length else []
theorem kcUp_len (os : List (List Int)) (k : Nat) : (kcUp os k).length = 9 := by
  induction k with
  | zero => rfl
  | succ k ih => simp [kcUp, ih]
theorem gi_replicate (n j : Nat) : gi (List.replicate n 0) j = 0 := by
  simp only [gi, List.getD, List.getElem?_replicate]
  split <;> rfl
theorem kcUp_bd (os : List (List Int)) (k : Nat) : ∀ j, 0 ≤ gi (kcUp os k) j ∧ gi (kcUp os k) j ≤ k := by
  induction k with
  | zero =>
    intro j
    rw [kcUp, gi_replicate]
    simp
  | succ k ih =>
    intro j
    have h1 := ih j
    have h2 := ih (gi (gl os k) 0 - 1).toNat
    simp only [kcUp]
    generalize (gi (gl os k) 0 - 1).toNat = m at *
    by_cases hm : m = j
    · subst hm
      by_cases hl : m < (kcUp os k).length
      · rw [show gi ((kcUp os k).set m (gi (kcUp os k) m + 1)) m = gi (kcUp os k) m + 1 by simp [gi, List.getD, hl]]; omega
      · rw [List.set_eq_of_length_le (by omega)]; omega
    · rw [show gi ((kcUp os k).set m (gi (kcUp os k) m + 1)) j = gi (kcUp os k) j by simp [gi, List.getD, hm]]; omega
set_option maxHeartbeats 1600000 in
theorem impl_KindCounts_any (v : Value) (os : List (List Int)) (B : Nat) (w : World) (h : SlR 8 w B v os) (hB : B ≤ w.heap.size) :
    Calls Tryz.prog 14 #[v] w fun e w' => ∃ r, e = .returned r ∧ Ow w' w.heap.size w'.heap.size r (kcA os) ∧ Below w.heap.size w w' := by
  obtain ⟨A, c, rfl, hl, hm, -, hcells⟩ := id h
  unfold maxLen at hm
  have HC := Lib.hid hcells
  clear hcells
  obtain ⟨i0, hi, hz0, hz1, hz2⟩ := info_parts i64_info
  have HI := Lib.hid hi
  have HZ := Lib.hid hz0
  clear hi hz0
  cases hok : okOps 24 os
  · have HE := Lib.hid (show kcA os = [] by simp [kcA, hok])
    go_enter Tryz.func14, Tryz.ntmps14
    go_wp2_with (go_at_call 28; refine (is_below hok (validFor_any 24 _ os B _ h hB)).mono ?_; rintro e w1 ⟨rfl, hb⟩)
    go_ret
    exact ⟨_, rfl, by rw [HE.out]; exact Ow.nil _ _ _, hb⟩
  · have HE := Lib.hid (show kcA os = kcUp os os.length by simp [kcA, hok])
    have HK := Lib.hid hok
    go_enter Tryz.func14, Tryz.ntmps14
    go_wp2_with fail
    refine (is_below hok (validFor_any 24 _ os B _ h hB)).mono ?_
    rintro e w1 ⟨rfl, hb⟩
    go_wp2_with (at_make; refine wpList_make_full _ rfl _ _ 33 rfl w1.heap.size 2 i0 (.int .i64 0) 1 Tryz.underlying33 HI.out HZ.out hz1 _ _ _ _ 9 rfl rfl rfl rfl (by rw [hz2]; omega) (by unfold maxLen; omega) (Nat.le_refl _) ?_)
    intro w2 hown hg2
    have hO : Ow w2 w1.heap.size w2.heap.size (.slice (some ⟨w1.heap.size, 0, none⟩) 9 9) (kcUp os 0) := by
      refine Ow.of_own hown (by simp [kcUp]) ?_
      rw [toList_madeCells_one]
      rfl
    have hb2 : Below w.heap.size w w2 := hb.trans ((Below.refl w1.heap.size w1).grown hg2 (Nat.le_refl _) (by simp) |>.mono hb.size)
    have hz2' : w1.heap.size < w2.heap.size := (hown.lt _ rfl).2
    clear hown hg2
    go_wp2
    go_loopw [12] (fun i wr => ∃ k : Nat, k ≤ os.length ∧ i = .int .i64 k ∧ Ow wr w1.heap.size wr.heap.size (.slice (some ⟨w1.heap.size, 0, none⟩) 9 9) (kcUp os k) ∧ Below w.heap.size w wr) (fun i _ => os.length - (intOf i).toNat)
    case atStart => exact ⟨0, Nat.zero_le _, rfl, hO, hb2⟩
    case round =>
      obtain ⟨k, hk, rfl, hO, hb3⟩ := hrel
      by_cases hlt : k < os.length
      · obtain ⟨b, off, rfl, hbB, hcell⟩ := HC.out (by omega)
        obtain ⟨q0, q1, q2, q3, q4, q5, q6, q7⟩ := opAt_of (fun j hj => (show wr.cell? ⟨b, off + k * 8 + j, none⟩ = some (.int .i64 (gi (gl os k) j)) by rw [hb3.cell (by simp only; omega)]; exact hcell k hlt j hj))
        have hkk := (okOps_parts HK.out).2.1
        obtain ⟨⟨x1, x2⟩, -⟩ := op_bds ((okOps_parts HK.out).2.2 k hlt).1
        obtain ⟨m, hm2⟩ : ∃ m : Nat, gi (gl os k) 0 - 1 = m := ⟨(gi (gl os k) 0 - 1).toNat, by omega⟩
        have hm9 : m < 9 := by omega
        have HS := Lib.hid (show (kcUp os k).set m (gi (kcUp os k) m + 1) = kcUp os (k + 1) by rw [kcUp, hm2, Int.toNat_natCast])
        have hbd := kcUp_bd os k m
        obtain ⟨d0, d1⟩ := hbd
        obtain ⟨g, cap, hv, hlo, hhi, q8, q9, hO2, hch⟩ := hO.set_ m (by rw [kcUp_len]; exact hm9) (gi (kcUp os k) m + 1)
        obtain rfl : w1.heap.size = g := by injection hv with hv _ _; injection hv with hv; injection hv
        have hz3 := hb3.size
        rw [HS.out] at hO2
        have HO2 := Lib.hid hO2
        have HCH := Lib.hid hch
        clear hcell hv hO2 hch
        generalize gi (kcUp os k) m = D at *
        have HB := Lib.hid hb3
        go_wp2
        go_roundw
        case rel =>
          exact ⟨k + 1, by omega, by go_num, (HO2.out.below (al1 _ _) HCH.out.size).mono (Nat.le_refl _) (Nat.le_trans HCH.out.size (al1 _ _).size), (HB.out.trans (HCH.out.below hb.size hz3)).trans ((al1 _ _).mono (Nat.le_trans hz3 HCH.out.size))⟩
        case measure => simp [intOf]; omega
      · obtain rfl : k = os.length := by omega
        go_wp2
        go_ret
        exact ⟨_, rfl, by rw [HE.out]; exact hO.mono hb.size (Nat.le_refl _), hb3⟩
end Go.Proofs.YtgmppfhokfifgaaGreatDoor
