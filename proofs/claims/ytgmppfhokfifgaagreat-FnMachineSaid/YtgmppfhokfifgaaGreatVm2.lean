/-
  Contracts: is a loop described rightly (the program's isInfo, the reference's l07Info). Printed by gen_vm2.py.
-/
import Derived.Test.YtgmppfhokfifgaaGreatVm
namespace Go.Proofs.YtgmppfhokfifgaaGreat
set_option maxRecDepth 10000
open Go.RowKit

def kindB (k : Int) : Bool := k == 1 || k == 2 || k == 5
def parB (n : Int) (ps : List Int) (i : Nat) : Bool := inR (gi ps i) 0 (n - 1) && !hasI (ps.take i) (gi ps i)
def parsB (n : Int) (ps : List Int) : Bool := (List.range ps.length).all (parB n ps)
def infB (wd n a0 a1 a2 a3 a4 : Int) (ps : List Int) : Bool :=
  kindB a0 && inR a1 1 4 && bedB a2 && inR a3 0 (wd - 1) && dirB a4 && decide (ps.length ≤ 4) && parsB n ps && (a0 != 2 || ps.length == 0) && (a0 != 5 || decide (0 < ps.length))
theorem parsB_no {n : Int} {ps : List Int} {k : Nat} (hk : k < ps.length) (h : parB n ps k = false) : parsB n ps = false := by
  rw [← Bool.not_eq_true]; intro h2
  rw [parsB, List.all_eq_true] at h2
  have := h2 k (List.mem_range.2 hk)
  rw [h] at this; cases this
theorem parsB_yes {n : Int} {ps : List Int} (h : ∀ j, j < ps.length → parB n ps j = true) : parsB n ps = true := by
  rw [parsB, List.all_eq_true]; exact fun j hj => h j (List.mem_range.1 hj)
theorem sl_pre {w : World} {B : Nat} {A : Option Addr} {n c : Nat} {xs : List Int} (h : Sl w B (.slice A n c) xs) (k : Nat) (hk : k ≤ xs.length) : Sl w B (.slice A k c) (xs.take k) := by
  obtain ⟨A', c', e, hl, hm, hn, hc⟩ := h
  simp only [Value.slice.injEq] at e
  obtain ⟨rfl, rfl, rfl⟩ := e
  have htl : (xs.take k).length = k := by simp; omega
  refine ⟨A, c, by rw [htl], by omega, hm, hn, fun hp => ?_⟩
  obtain ⟨b, off, e, hb, hcc⟩ := hc (by omega)
  refine ⟨b, off, e, hb, fun j hj => ?_⟩
  rw [htl] at hj
  rw [hcc j (by omega)]
  congr 2
  rw [gi_eq (by omega), gi_eq (by rw [htl]; exact hj)]
  simp
set_option maxRecDepth 100000 in
set_option maxHeartbeats 12800000 in
theorem isInfo_any {wd n a0 a1 a2 a3 a4 : Int} {v : Value} {ps : List Int} {B g : Nat} {w : World} (h : Sl w B v ps) (hB : B ≤ w.heap.size) (hc : w.cell? ⟨g, 0, none⟩ = some (.int .i64 wd)) (hw0 : 1 ≤ wd) (hw1 : wd ≤ 24) (hn0 : 0 ≤ n) (hn1 : n ≤ 300) :
    Calls Tryz.prog 26 #[.pointer (some ⟨g, 0, none⟩), .int .i64 n, .agg #[.int .i64 a0, .int .i64 a1, .int .i64 a2, .int .i64 a3, .int .i64 a4, v]] w fun e w' => e = .returned (.bool (infB wd n a0 a1 a2 a3 a4 ps)) ∧ Below w.heap.size w w' := by
  obtain ⟨A, c, rfl, hl, hm, -⟩ := id h
  unfold maxLen at hm
  have hlt := block_lt_of_cell hc
  by_cases k1 : a0 = 1
  · subst k1
    cases hc1 : inR a1 1 4
    · have HT : Hid (infB wd n 1 a1 a2 a3 a4 ps = false) := Lib.hid (by simp [infB, hc1])
      go_enter Tryz.func26, Tryz.ntmps26
      go_wp2_with fail
      go_quiet (first | (go_at_call 37; first | exact quiet_same_on (is_same hc1 (isCarrier_any _ _)) | exact quiet_same_at (is_same hc1 (isCarrier_any _ _)) | exact quiet_same (is_same hc1 (isCarrier_any _ _))))
      go_wp2
      go_ret
      exact ⟨ret_bool HT.out.symm, below_drewN (al1 _ _) _⟩
    · skip
      cases hc2 : bedB a2
      · have HT : Hid (infB wd n 1 a1 a2 a3 a4 ps = false) := Lib.hid (by simp [infB, hc2])
        go_enter Tryz.func26, Tryz.ntmps26
        go_wp2_with fail
        go_quiet (first | (go_at_call 37; first | exact quiet_same_on (is_same hc1 (isCarrier_any _ _)) | exact quiet_same_at (is_same hc1 (isCarrier_any _ _)) | exact quiet_same (is_same hc1 (isCarrier_any _ _))) | (go_at_call 58; first | exact quiet_same_on (is_same hc2 (isBed_any _ _)) | exact quiet_same_at (is_same hc2 (isBed_any _ _)) | exact quiet_same (is_same hc2 (isBed_any _ _))))
        go_wp2
        go_ret
        exact ⟨ret_bool HT.out.symm, below_drewN (al1 _ _) _⟩
      · skip
        cases hc3 : inR a3 0 (wd - 1)
        · have HT : Hid (infB wd n 1 a1 a2 a3 a4 ps = false) := Lib.hid (by simp [infB, hc3])
          go_enter Tryz.func26, Tryz.ntmps26
          go_wp2_with fail
          go_quiet (first | (go_at_call 37; first | exact quiet_same_on (is_same hc1 (isCarrier_any _ _)) | exact quiet_same_at (is_same hc1 (isCarrier_any _ _)) | exact quiet_same (is_same hc1 (isCarrier_any _ _))) | (go_at_call 58; first | exact quiet_same_on (is_same hc2 (isBed_any _ _)) | exact quiet_same_at (is_same hc2 (isBed_any _ _)) | exact quiet_same (is_same hc2 (isBed_any _ _))) | (go_at_call 14; first | exact quiet_same_on (is_same hc3 (within_any _ _ _ _)) | exact quiet_same_at (is_same hc3 (within_any _ _ _ _)) | exact quiet_same (is_same hc3 (within_any _ _ _ _))))
          go_wp2
          go_ret
          exact ⟨ret_bool HT.out.symm, below_drewN (al1 _ _) _⟩
        · skip
          cases hc4 : dirB a4
          · have HT : Hid (infB wd n 1 a1 a2 a3 a4 ps = false) := Lib.hid (by simp [infB, hc4])
            go_enter Tryz.func26, Tryz.ntmps26
            go_wp2_with fail
            go_quiet (first | (go_at_call 37; first | exact quiet_same_on (is_same hc1 (isCarrier_any _ _)) | exact quiet_same_at (is_same hc1 (isCarrier_any _ _)) | exact quiet_same (is_same hc1 (isCarrier_any _ _))) | (go_at_call 58; first | exact quiet_same_on (is_same hc2 (isBed_any _ _)) | exact quiet_same_at (is_same hc2 (isBed_any _ _)) | exact quiet_same (is_same hc2 (isBed_any _ _))) | (go_at_call 14; first | exact quiet_same_on (is_same hc3 (within_any _ _ _ _)) | exact quiet_same_at (is_same hc3 (within_any _ _ _ _)) | exact quiet_same (is_same hc3 (within_any _ _ _ _))) | (go_at_call 35; first | exact quiet_same_on (is_same hc4 (isDirection_any _ _)) | exact quiet_same_at (is_same hc4 (isDirection_any _ _)) | exact quiet_same (is_same hc4 (isDirection_any _ _))))
            go_wp2
            go_ret
            exact ⟨ret_bool HT.out.symm, below_drewN (al1 _ _) _⟩
          · skip
            by_cases hlen : ps.length ≤ 4
            · have hlenI : ¬ (4 : Int) < (ps.length : Int) := by omega
              have hlenJ : (ps.length : Int) ≤ 4 := by omega
              have HE : Hid (infB wd n 1 a1 a2 a3 a4 ps = (parsB n ps && true)) := Lib.hid (by simp [infB, kindB, hc1, hc2, hc3, hc4, hlen])
              have hs1 := h.below (al1 w (.cells #[.int .i64 (1), .int .i64 a1, .int .i64 a2, .int .i64 a3, .int .i64 a4, .slice A ps.length c] 47)) hB
              have HS1 := Lib.hid hs1
              have HLEN := Lib.hid hlen
              clear hs1 hlen
              go_enter Tryz.func26, Tryz.ntmps26
              go_wp2_with fail
              go_quiet (first | (go_at_call 37; first | exact quiet_same_on (is_same hc1 (isCarrier_any _ _)) | exact quiet_same_at (is_same hc1 (isCarrier_any _ _)) | exact quiet_same (is_same hc1 (isCarrier_any _ _))) | (go_at_call 58; first | exact quiet_same_on (is_same hc2 (isBed_any _ _)) | exact quiet_same_at (is_same hc2 (isBed_any _ _)) | exact quiet_same (is_same hc2 (isBed_any _ _))) | (go_at_call 14; first | exact quiet_same_on (is_same hc3 (within_any _ _ _ _)) | exact quiet_same_at (is_same hc3 (within_any _ _ _ _)) | exact quiet_same (is_same hc3 (within_any _ _ _ _))) | (go_at_call 35; first | exact quiet_same_on (is_same hc4 (isDirection_any _ _)) | exact quiet_same_at (is_same hc4 (isDirection_any _ _)) | exact quiet_same (is_same hc4 (isDirection_any _ _))))
              go_wp2_with fail
              go_loopw [58] (fun i wr => ∃ k : Nat, k ≤ ps.length ∧ i = .int .i64 k ∧ (∀ j, j < k → parB n ps j = true) ∧ ∃ m, wr = (w.alloc (.cells #[.int .i64 (1), .int .i64 a1, .int .i64 a2, .int .i64 a3, .int .i64 a4, .slice A ps.length c] 47)).drewN m) (fun i _ => ps.length - (intOf i).toNat)
              case atStart => exact ⟨0, Nat.zero_le _, rfl, fun j h => absurd h (Nat.not_lt_zero _), _, rfl⟩
              case round =>
                obtain ⟨k, hk, rfl, hgood, m, rfl⟩ := hrel
                have HG := Lib.hid hgood
                clear hgood
                by_cases hkl : k < ps.length
                · obtain ⟨A9, c9, e9, -, -, -, hcell⟩ := id h
                  simp only [Value.slice.injEq] at e9
                  obtain ⟨rfl, -, rfl⟩ := e9
                  obtain ⟨b, off, rfl, hbB, hcc⟩ := hcell (by omega)
                  have q1 := hcc k hkl
                  have hbw : b < w.heap.size := by omega
                  clear hcell hcc
                  have hs2 := (sl_pre HS1.out k hk).drewN m
                  have HPB : Hid (parB n ps k = (inR (gi ps k) 0 (n - 1) && !hasI (ps.take k) (gi ps k))) := Lib.hid rfl
                  have HNX : Hid (parB n ps k = true → ∀ j, j < k + 1 → parB n ps j = true) := Lib.hid fun hx j hj => by
                      by_cases hjk : j < k
                      · exact HG.out j hjk
                      · obtain rfl : j = k := by omega
                        exact hx
                  have HNO : Hid (parB n ps k = false → infB wd n 1 a1 a2 a3 a4 ps = false) := Lib.hid fun hx => by rw [HE.out, parsB_no hkl hx]; rfl
                  generalize gi ps k = x at *
                  cases hi : inR x 0 (n - 1)
                  · have HT := Lib.hid (HNO.out (by rw [HPB.out, hi]; rfl))
                    go_wp2_with (go_at_call 14; refine (is_same hi (within_any _ _ _ _)).mono ?_; rintro e w' ⟨rfl, rfl⟩)
                    go_ret
                    exact ⟨ret_bool HT.out.symm, below_drewN (al1 _ _) _⟩
                  · skip
                    cases hh : hasI (ps.take k) x
                    · have HX := Lib.hid (HNX.out (by rw [HPB.out, hi, hh]; rfl))
                      go_wp2_with (first | (go_at_call 14; refine (is_same hi (within_any _ _ _ _)).mono ?_; rintro e w' ⟨rfl, rfl⟩) | (go_at_call 59; refine (is_same hh (containsInts_any _ _ _ _ _ hs2)).mono ?_; rintro e w' ⟨rfl, rfl⟩))
                      go_roundw
                      case rel => exact ⟨k + 1, by omega, by go_num, HX.out, _, rfl⟩
                      case measure => simp [intOf]; omega
                    · have HT := Lib.hid (HNO.out (by rw [HPB.out, hi, hh]; rfl))
                      go_wp2_with (first | (go_at_call 14; refine (is_same hi (within_any _ _ _ _)).mono ?_; rintro e w' ⟨rfl, rfl⟩) | (go_at_call 59; refine (is_same hh (containsInts_any _ _ _ _ _ hs2)).mono ?_; rintro e w' ⟨rfl, rfl⟩))
                      go_ret
                      exact ⟨ret_bool HT.out.symm, below_drewN (al1 _ _) _⟩
                · have HP := Lib.hid (parsB_yes (n := n) (ps := ps) fun j hj => HG.out j (by omega))
                  have HT : Hid (infB wd n 1 a1 a2 a3 a4 ps = true) := Lib.hid (by rw [HE.out, HP.out]; rfl)
                  go_wp2
                  go_ret
                  exact ⟨ret_bool HT.out.symm, below_drewN (al1 _ _) _⟩
            · have HT : Hid (infB wd n 1 a1 a2 a3 a4 ps = false) := Lib.hid (by simp [infB, hlen])
              have hlenI : (4 : Int) < (ps.length : Int) := by omega
              clear hlen
              go_enter Tryz.func26, Tryz.ntmps26
              go_wp2_with fail
              go_quiet (first | (go_at_call 37; first | exact quiet_same_on (is_same hc1 (isCarrier_any _ _)) | exact quiet_same_at (is_same hc1 (isCarrier_any _ _)) | exact quiet_same (is_same hc1 (isCarrier_any _ _))) | (go_at_call 58; first | exact quiet_same_on (is_same hc2 (isBed_any _ _)) | exact quiet_same_at (is_same hc2 (isBed_any _ _)) | exact quiet_same (is_same hc2 (isBed_any _ _))) | (go_at_call 14; first | exact quiet_same_on (is_same hc3 (within_any _ _ _ _)) | exact quiet_same_at (is_same hc3 (within_any _ _ _ _)) | exact quiet_same (is_same hc3 (within_any _ _ _ _))) | (go_at_call 35; first | exact quiet_same_on (is_same hc4 (isDirection_any _ _)) | exact quiet_same_at (is_same hc4 (isDirection_any _ _)) | exact quiet_same (is_same hc4 (isDirection_any _ _))))
              go_wp2
              go_ret
              exact ⟨ret_bool HT.out.symm, below_drewN (al1 _ _) _⟩
  · skip
    by_cases k2 : a0 = 2
    · subst k2
      cases hc1 : inR a1 1 4
      · have HT : Hid (infB wd n 2 a1 a2 a3 a4 ps = false) := Lib.hid (by simp [infB, hc1])
        go_enter Tryz.func26, Tryz.ntmps26
        go_wp2_with fail
        go_quiet (first | (go_at_call 37; first | exact quiet_same_on (is_same hc1 (isCarrier_any _ _)) | exact quiet_same_at (is_same hc1 (isCarrier_any _ _)) | exact quiet_same (is_same hc1 (isCarrier_any _ _))))
        go_wp2
        go_ret
        exact ⟨ret_bool HT.out.symm, below_drewN (al1 _ _) _⟩
      · skip
        cases hc2 : bedB a2
        · have HT : Hid (infB wd n 2 a1 a2 a3 a4 ps = false) := Lib.hid (by simp [infB, hc2])
          go_enter Tryz.func26, Tryz.ntmps26
          go_wp2_with fail
          go_quiet (first | (go_at_call 37; first | exact quiet_same_on (is_same hc1 (isCarrier_any _ _)) | exact quiet_same_at (is_same hc1 (isCarrier_any _ _)) | exact quiet_same (is_same hc1 (isCarrier_any _ _))) | (go_at_call 58; first | exact quiet_same_on (is_same hc2 (isBed_any _ _)) | exact quiet_same_at (is_same hc2 (isBed_any _ _)) | exact quiet_same (is_same hc2 (isBed_any _ _))))
          go_wp2
          go_ret
          exact ⟨ret_bool HT.out.symm, below_drewN (al1 _ _) _⟩
        · skip
          cases hc3 : inR a3 0 (wd - 1)
          · have HT : Hid (infB wd n 2 a1 a2 a3 a4 ps = false) := Lib.hid (by simp [infB, hc3])
            go_enter Tryz.func26, Tryz.ntmps26
            go_wp2_with fail
            go_quiet (first | (go_at_call 37; first | exact quiet_same_on (is_same hc1 (isCarrier_any _ _)) | exact quiet_same_at (is_same hc1 (isCarrier_any _ _)) | exact quiet_same (is_same hc1 (isCarrier_any _ _))) | (go_at_call 58; first | exact quiet_same_on (is_same hc2 (isBed_any _ _)) | exact quiet_same_at (is_same hc2 (isBed_any _ _)) | exact quiet_same (is_same hc2 (isBed_any _ _))) | (go_at_call 14; first | exact quiet_same_on (is_same hc3 (within_any _ _ _ _)) | exact quiet_same_at (is_same hc3 (within_any _ _ _ _)) | exact quiet_same (is_same hc3 (within_any _ _ _ _))))
            go_wp2
            go_ret
            exact ⟨ret_bool HT.out.symm, below_drewN (al1 _ _) _⟩
          · skip
            cases hc4 : dirB a4
            · have HT : Hid (infB wd n 2 a1 a2 a3 a4 ps = false) := Lib.hid (by simp [infB, hc4])
              go_enter Tryz.func26, Tryz.ntmps26
              go_wp2_with fail
              go_quiet (first | (go_at_call 37; first | exact quiet_same_on (is_same hc1 (isCarrier_any _ _)) | exact quiet_same_at (is_same hc1 (isCarrier_any _ _)) | exact quiet_same (is_same hc1 (isCarrier_any _ _))) | (go_at_call 58; first | exact quiet_same_on (is_same hc2 (isBed_any _ _)) | exact quiet_same_at (is_same hc2 (isBed_any _ _)) | exact quiet_same (is_same hc2 (isBed_any _ _))) | (go_at_call 14; first | exact quiet_same_on (is_same hc3 (within_any _ _ _ _)) | exact quiet_same_at (is_same hc3 (within_any _ _ _ _)) | exact quiet_same (is_same hc3 (within_any _ _ _ _))) | (go_at_call 35; first | exact quiet_same_on (is_same hc4 (isDirection_any _ _)) | exact quiet_same_at (is_same hc4 (isDirection_any _ _)) | exact quiet_same (is_same hc4 (isDirection_any _ _))))
              go_wp2
              go_ret
              exact ⟨ret_bool HT.out.symm, below_drewN (al1 _ _) _⟩
            · skip
              by_cases hlen : ps.length ≤ 4
              · have hlenI : ¬ (4 : Int) < (ps.length : Int) := by omega
                have hlenJ : (ps.length : Int) ≤ 4 := by omega
                have HE : Hid (infB wd n 2 a1 a2 a3 a4 ps = (parsB n ps && (ps.length == 0))) := Lib.hid (by simp [infB, kindB, hc1, hc2, hc3, hc4, hlen])
                have hs1 := h.below (al1 w (.cells #[.int .i64 (2), .int .i64 a1, .int .i64 a2, .int .i64 a3, .int .i64 a4, .slice A ps.length c] 47)) hB
                have HS1 := Lib.hid hs1
                have HLEN := Lib.hid hlen
                clear hs1 hlen
                go_enter Tryz.func26, Tryz.ntmps26
                go_wp2_with fail
                go_quiet (first | (go_at_call 37; first | exact quiet_same_on (is_same hc1 (isCarrier_any _ _)) | exact quiet_same_at (is_same hc1 (isCarrier_any _ _)) | exact quiet_same (is_same hc1 (isCarrier_any _ _))) | (go_at_call 58; first | exact quiet_same_on (is_same hc2 (isBed_any _ _)) | exact quiet_same_at (is_same hc2 (isBed_any _ _)) | exact quiet_same (is_same hc2 (isBed_any _ _))) | (go_at_call 14; first | exact quiet_same_on (is_same hc3 (within_any _ _ _ _)) | exact quiet_same_at (is_same hc3 (within_any _ _ _ _)) | exact quiet_same (is_same hc3 (within_any _ _ _ _))) | (go_at_call 35; first | exact quiet_same_on (is_same hc4 (isDirection_any _ _)) | exact quiet_same_at (is_same hc4 (isDirection_any _ _)) | exact quiet_same (is_same hc4 (isDirection_any _ _))))
                go_wp2_with fail
                go_loopw [58] (fun i wr => ∃ k : Nat, k ≤ ps.length ∧ i = .int .i64 k ∧ (∀ j, j < k → parB n ps j = true) ∧ ∃ m, wr = (w.alloc (.cells #[.int .i64 (2), .int .i64 a1, .int .i64 a2, .int .i64 a3, .int .i64 a4, .slice A ps.length c] 47)).drewN m) (fun i _ => ps.length - (intOf i).toNat)
                case atStart => exact ⟨0, Nat.zero_le _, rfl, fun j h => absurd h (Nat.not_lt_zero _), _, rfl⟩
                case round =>
                  obtain ⟨k, hk, rfl, hgood, m, rfl⟩ := hrel
                  have HG := Lib.hid hgood
                  clear hgood
                  by_cases hkl : k < ps.length
                  · obtain ⟨A9, c9, e9, -, -, -, hcell⟩ := id h
                    simp only [Value.slice.injEq] at e9
                    obtain ⟨rfl, -, rfl⟩ := e9
                    obtain ⟨b, off, rfl, hbB, hcc⟩ := hcell (by omega)
                    have q1 := hcc k hkl
                    have hbw : b < w.heap.size := by omega
                    clear hcell hcc
                    have hs2 := (sl_pre HS1.out k hk).drewN m
                    have HPB : Hid (parB n ps k = (inR (gi ps k) 0 (n - 1) && !hasI (ps.take k) (gi ps k))) := Lib.hid rfl
                    have HNX : Hid (parB n ps k = true → ∀ j, j < k + 1 → parB n ps j = true) := Lib.hid fun hx j hj => by
                        by_cases hjk : j < k
                        · exact HG.out j hjk
                        · obtain rfl : j = k := by omega
                          exact hx
                    have HNO : Hid (parB n ps k = false → infB wd n 2 a1 a2 a3 a4 ps = false) := Lib.hid fun hx => by rw [HE.out, parsB_no hkl hx]; rfl
                    generalize gi ps k = x at *
                    cases hi : inR x 0 (n - 1)
                    · have HT := Lib.hid (HNO.out (by rw [HPB.out, hi]; rfl))
                      go_wp2_with (go_at_call 14; refine (is_same hi (within_any _ _ _ _)).mono ?_; rintro e w' ⟨rfl, rfl⟩)
                      go_ret
                      exact ⟨ret_bool HT.out.symm, below_drewN (al1 _ _) _⟩
                    · skip
                      cases hh : hasI (ps.take k) x
                      · have HX := Lib.hid (HNX.out (by rw [HPB.out, hi, hh]; rfl))
                        go_wp2_with (first | (go_at_call 14; refine (is_same hi (within_any _ _ _ _)).mono ?_; rintro e w' ⟨rfl, rfl⟩) | (go_at_call 59; refine (is_same hh (containsInts_any _ _ _ _ _ hs2)).mono ?_; rintro e w' ⟨rfl, rfl⟩))
                        go_roundw
                        case rel => exact ⟨k + 1, by omega, by go_num, HX.out, _, rfl⟩
                        case measure => simp [intOf]; omega
                      · have HT := Lib.hid (HNO.out (by rw [HPB.out, hi, hh]; rfl))
                        go_wp2_with (first | (go_at_call 14; refine (is_same hi (within_any _ _ _ _)).mono ?_; rintro e w' ⟨rfl, rfl⟩) | (go_at_call 59; refine (is_same hh (containsInts_any _ _ _ _ _ hs2)).mono ?_; rintro e w' ⟨rfl, rfl⟩))
                        go_ret
                        exact ⟨ret_bool HT.out.symm, below_drewN (al1 _ _) _⟩
                  · have HP := Lib.hid (parsB_yes (n := n) (ps := ps) fun j hj => HG.out j (by omega))
                    by_cases hz : ps.length = 0
                    · have HT : Hid (infB wd n 2 a1 a2 a3 a4 ps = true) := Lib.hid (by rw [HE.out, HP.out, hz]; rfl)
                      have z1 : (ps.length : Int) = 0 := by omega
                      have z2 : ((ps.length : Int) == 0) = true := by simp [z1]
                      clear hz
                      go_wp2
                      go_ret
                      exact ⟨ret_bool HT.out.symm, below_drewN (al1 _ _) _⟩
                    · have z3 : 0 < ps.length := by omega
                      have HT : Hid (infB wd n 2 a1 a2 a3 a4 ps = false) := Lib.hid (by rw [HE.out, HP.out]; rw [show (ps.length == 0) = false by rw [beq_eq_false_iff_ne]; omega]; rfl)
                      have z1 : 0 < (ps.length : Int) := by omega
                      have z2 : ((ps.length : Int) == 0) = false := by rw [beq_eq_false_iff_ne]; omega
                      go_wp2
                      go_ret
                      exact ⟨ret_bool HT.out.symm, below_drewN (al1 _ _) _⟩
              · have HT : Hid (infB wd n 2 a1 a2 a3 a4 ps = false) := Lib.hid (by simp [infB, hlen])
                have hlenI : (4 : Int) < (ps.length : Int) := by omega
                clear hlen
                go_enter Tryz.func26, Tryz.ntmps26
                go_wp2_with fail
                go_quiet (first | (go_at_call 37; first | exact quiet_same_on (is_same hc1 (isCarrier_any _ _)) | exact quiet_same_at (is_same hc1 (isCarrier_any _ _)) | exact quiet_same (is_same hc1 (isCarrier_any _ _))) | (go_at_call 58; first | exact quiet_same_on (is_same hc2 (isBed_any _ _)) | exact quiet_same_at (is_same hc2 (isBed_any _ _)) | exact quiet_same (is_same hc2 (isBed_any _ _))) | (go_at_call 14; first | exact quiet_same_on (is_same hc3 (within_any _ _ _ _)) | exact quiet_same_at (is_same hc3 (within_any _ _ _ _)) | exact quiet_same (is_same hc3 (within_any _ _ _ _))) | (go_at_call 35; first | exact quiet_same_on (is_same hc4 (isDirection_any _ _)) | exact quiet_same_at (is_same hc4 (isDirection_any _ _)) | exact quiet_same (is_same hc4 (isDirection_any _ _))))
                go_wp2
                go_ret
                exact ⟨ret_bool HT.out.symm, below_drewN (al1 _ _) _⟩
    · skip
      by_cases k5 : a0 = 5
      · subst k5
        cases hc1 : inR a1 1 4
        · have HT : Hid (infB wd n 5 a1 a2 a3 a4 ps = false) := Lib.hid (by simp [infB, hc1])
          go_enter Tryz.func26, Tryz.ntmps26
          go_wp2_with fail
          go_quiet (first | (go_at_call 37; first | exact quiet_same_on (is_same hc1 (isCarrier_any _ _)) | exact quiet_same_at (is_same hc1 (isCarrier_any _ _)) | exact quiet_same (is_same hc1 (isCarrier_any _ _))))
          go_wp2
          go_ret
          exact ⟨ret_bool HT.out.symm, below_drewN (al1 _ _) _⟩
        · skip
          cases hc2 : bedB a2
          · have HT : Hid (infB wd n 5 a1 a2 a3 a4 ps = false) := Lib.hid (by simp [infB, hc2])
            go_enter Tryz.func26, Tryz.ntmps26
            go_wp2_with fail
            go_quiet (first | (go_at_call 37; first | exact quiet_same_on (is_same hc1 (isCarrier_any _ _)) | exact quiet_same_at (is_same hc1 (isCarrier_any _ _)) | exact quiet_same (is_same hc1 (isCarrier_any _ _))) | (go_at_call 58; first | exact quiet_same_on (is_same hc2 (isBed_any _ _)) | exact quiet_same_at (is_same hc2 (isBed_any _ _)) | exact quiet_same (is_same hc2 (isBed_any _ _))))
            go_wp2
            go_ret
            exact ⟨ret_bool HT.out.symm, below_drewN (al1 _ _) _⟩
          · skip
            cases hc3 : inR a3 0 (wd - 1)
            · have HT : Hid (infB wd n 5 a1 a2 a3 a4 ps = false) := Lib.hid (by simp [infB, hc3])
              go_enter Tryz.func26, Tryz.ntmps26
              go_wp2_with fail
              go_quiet (first | (go_at_call 37; first | exact quiet_same_on (is_same hc1 (isCarrier_any _ _)) | exact quiet_same_at (is_same hc1 (isCarrier_any _ _)) | exact quiet_same (is_same hc1 (isCarrier_any _ _))) | (go_at_call 58; first | exact quiet_same_on (is_same hc2 (isBed_any _ _)) | exact quiet_same_at (is_same hc2 (isBed_any _ _)) | exact quiet_same (is_same hc2 (isBed_any _ _))) | (go_at_call 14; first | exact quiet_same_on (is_same hc3 (within_any _ _ _ _)) | exact quiet_same_at (is_same hc3 (within_any _ _ _ _)) | exact quiet_same (is_same hc3 (within_any _ _ _ _))))
              go_wp2
              go_ret
              exact ⟨ret_bool HT.out.symm, below_drewN (al1 _ _) _⟩
            · skip
              cases hc4 : dirB a4
              · have HT : Hid (infB wd n 5 a1 a2 a3 a4 ps = false) := Lib.hid (by simp [infB, hc4])
                go_enter Tryz.func26, Tryz.ntmps26
                go_wp2_with fail
                go_quiet (first | (go_at_call 37; first | exact quiet_same_on (is_same hc1 (isCarrier_any _ _)) | exact quiet_same_at (is_same hc1 (isCarrier_any _ _)) | exact quiet_same (is_same hc1 (isCarrier_any _ _))) | (go_at_call 58; first | exact quiet_same_on (is_same hc2 (isBed_any _ _)) | exact quiet_same_at (is_same hc2 (isBed_any _ _)) | exact quiet_same (is_same hc2 (isBed_any _ _))) | (go_at_call 14; first | exact quiet_same_on (is_same hc3 (within_any _ _ _ _)) | exact quiet_same_at (is_same hc3 (within_any _ _ _ _)) | exact quiet_same (is_same hc3 (within_any _ _ _ _))) | (go_at_call 35; first | exact quiet_same_on (is_same hc4 (isDirection_any _ _)) | exact quiet_same_at (is_same hc4 (isDirection_any _ _)) | exact quiet_same (is_same hc4 (isDirection_any _ _))))
                go_wp2
                go_ret
                exact ⟨ret_bool HT.out.symm, below_drewN (al1 _ _) _⟩
              · skip
                by_cases hlen : ps.length ≤ 4
                · have hlenI : ¬ (4 : Int) < (ps.length : Int) := by omega
                  have hlenJ : (ps.length : Int) ≤ 4 := by omega
                  have HE : Hid (infB wd n 5 a1 a2 a3 a4 ps = (parsB n ps && decide (0 < ps.length))) := Lib.hid (by simp [infB, kindB, hc1, hc2, hc3, hc4, hlen])
                  have hs1 := h.below (al1 w (.cells #[.int .i64 (5), .int .i64 a1, .int .i64 a2, .int .i64 a3, .int .i64 a4, .slice A ps.length c] 47)) hB
                  have HS1 := Lib.hid hs1
                  have HLEN := Lib.hid hlen
                  clear hs1 hlen
                  go_enter Tryz.func26, Tryz.ntmps26
                  go_wp2_with fail
                  go_quiet (first | (go_at_call 37; first | exact quiet_same_on (is_same hc1 (isCarrier_any _ _)) | exact quiet_same_at (is_same hc1 (isCarrier_any _ _)) | exact quiet_same (is_same hc1 (isCarrier_any _ _))) | (go_at_call 58; first | exact quiet_same_on (is_same hc2 (isBed_any _ _)) | exact quiet_same_at (is_same hc2 (isBed_any _ _)) | exact quiet_same (is_same hc2 (isBed_any _ _))) | (go_at_call 14; first | exact quiet_same_on (is_same hc3 (within_any _ _ _ _)) | exact quiet_same_at (is_same hc3 (within_any _ _ _ _)) | exact quiet_same (is_same hc3 (within_any _ _ _ _))) | (go_at_call 35; first | exact quiet_same_on (is_same hc4 (isDirection_any _ _)) | exact quiet_same_at (is_same hc4 (isDirection_any _ _)) | exact quiet_same (is_same hc4 (isDirection_any _ _))))
                  go_wp2_with fail
                  go_loopw [58] (fun i wr => ∃ k : Nat, k ≤ ps.length ∧ i = .int .i64 k ∧ (∀ j, j < k → parB n ps j = true) ∧ ∃ m, wr = (w.alloc (.cells #[.int .i64 (5), .int .i64 a1, .int .i64 a2, .int .i64 a3, .int .i64 a4, .slice A ps.length c] 47)).drewN m) (fun i _ => ps.length - (intOf i).toNat)
                  case atStart => exact ⟨0, Nat.zero_le _, rfl, fun j h => absurd h (Nat.not_lt_zero _), _, rfl⟩
                  case round =>
                    obtain ⟨k, hk, rfl, hgood, m, rfl⟩ := hrel
                    have HG := Lib.hid hgood
                    clear hgood
                    by_cases hkl : k < ps.length
                    · obtain ⟨A9, c9, e9, -, -, -, hcell⟩ := id h
                      simp only [Value.slice.injEq] at e9
                      obtain ⟨rfl, -, rfl⟩ := e9
                      obtain ⟨b, off, rfl, hbB, hcc⟩ := hcell (by omega)
                      have q1 := hcc k hkl
                      have hbw : b < w.heap.size := by omega
                      clear hcell hcc
                      have hs2 := (sl_pre HS1.out k hk).drewN m
                      have HPB : Hid (parB n ps k = (inR (gi ps k) 0 (n - 1) && !hasI (ps.take k) (gi ps k))) := Lib.hid rfl
                      have HNX : Hid (parB n ps k = true → ∀ j, j < k + 1 → parB n ps j = true) := Lib.hid fun hx j hj => by
                          by_cases hjk : j < k
                          · exact HG.out j hjk
                          · obtain rfl : j = k := by omega
                            exact hx
                      have HNO : Hid (parB n ps k = false → infB wd n 5 a1 a2 a3 a4 ps = false) := Lib.hid fun hx => by rw [HE.out, parsB_no hkl hx]; rfl
                      generalize gi ps k = x at *
                      cases hi : inR x 0 (n - 1)
                      · have HT := Lib.hid (HNO.out (by rw [HPB.out, hi]; rfl))
                        go_wp2_with (go_at_call 14; refine (is_same hi (within_any _ _ _ _)).mono ?_; rintro e w' ⟨rfl, rfl⟩)
                        go_ret
                        exact ⟨ret_bool HT.out.symm, below_drewN (al1 _ _) _⟩
                      · skip
                        cases hh : hasI (ps.take k) x
                        · have HX := Lib.hid (HNX.out (by rw [HPB.out, hi, hh]; rfl))
                          go_wp2_with (first | (go_at_call 14; refine (is_same hi (within_any _ _ _ _)).mono ?_; rintro e w' ⟨rfl, rfl⟩) | (go_at_call 59; refine (is_same hh (containsInts_any _ _ _ _ _ hs2)).mono ?_; rintro e w' ⟨rfl, rfl⟩))
                          go_roundw
                          case rel => exact ⟨k + 1, by omega, by go_num, HX.out, _, rfl⟩
                          case measure => simp [intOf]; omega
                        · have HT := Lib.hid (HNO.out (by rw [HPB.out, hi, hh]; rfl))
                          go_wp2_with (first | (go_at_call 14; refine (is_same hi (within_any _ _ _ _)).mono ?_; rintro e w' ⟨rfl, rfl⟩) | (go_at_call 59; refine (is_same hh (containsInts_any _ _ _ _ _ hs2)).mono ?_; rintro e w' ⟨rfl, rfl⟩))
                          go_ret
                          exact ⟨ret_bool HT.out.symm, below_drewN (al1 _ _) _⟩
                    · have HP := Lib.hid (parsB_yes (n := n) (ps := ps) fun j hj => HG.out j (by omega))
                      by_cases hz : ps.length = 0
                      · have HT : Hid (infB wd n 5 a1 a2 a3 a4 ps = false) := Lib.hid (by rw [HE.out, HP.out, hz]; rfl)
                        have z1 : (ps.length : Int) = 0 := by omega
                        have z2 : ((ps.length : Int) == 0) = true := by simp [z1]
                        clear hz
                        go_wp2
                        go_ret
                        exact ⟨ret_bool HT.out.symm, below_drewN (al1 _ _) _⟩
                      · have z3 : 0 < ps.length := by omega
                        have HT : Hid (infB wd n 5 a1 a2 a3 a4 ps = true) := Lib.hid (by rw [HE.out, HP.out]; rw [show decide (0 < ps.length) = true by rw [decide_eq_true_eq]; omega]; rfl)
                        have z1 : 0 < (ps.length : Int) := by omega
                        have z2 : ((ps.length : Int) == 0) = false := by rw [beq_eq_false_iff_ne]; omega
                        go_wp2
                        go_ret
                        exact ⟨ret_bool HT.out.symm, below_drewN (al1 _ _) _⟩
                · have HT : Hid (infB wd n 5 a1 a2 a3 a4 ps = false) := Lib.hid (by simp [infB, hlen])
                  have hlenI : (4 : Int) < (ps.length : Int) := by omega
                  clear hlen
                  go_enter Tryz.func26, Tryz.ntmps26
                  go_wp2_with fail
                  go_quiet (first | (go_at_call 37; first | exact quiet_same_on (is_same hc1 (isCarrier_any _ _)) | exact quiet_same_at (is_same hc1 (isCarrier_any _ _)) | exact quiet_same (is_same hc1 (isCarrier_any _ _))) | (go_at_call 58; first | exact quiet_same_on (is_same hc2 (isBed_any _ _)) | exact quiet_same_at (is_same hc2 (isBed_any _ _)) | exact quiet_same (is_same hc2 (isBed_any _ _))) | (go_at_call 14; first | exact quiet_same_on (is_same hc3 (within_any _ _ _ _)) | exact quiet_same_at (is_same hc3 (within_any _ _ _ _)) | exact quiet_same (is_same hc3 (within_any _ _ _ _))) | (go_at_call 35; first | exact quiet_same_on (is_same hc4 (isDirection_any _ _)) | exact quiet_same_at (is_same hc4 (isDirection_any _ _)) | exact quiet_same (is_same hc4 (isDirection_any _ _))))
                  go_wp2
                  go_ret
                  exact ⟨ret_bool HT.out.symm, below_drewN (al1 _ _) _⟩
      · have HT : Hid (infB wd n a0 a1 a2 a3 a4 ps = false) := Lib.hid (by simp [infB, kindB, k1, k2, k5])
        have t1 : (a0 != 1) = true := by simp [k1]
        have t2 : (a0 != 2) = true := by simp [k2]
        have t5 : (a0 != 5) = true := by simp [k5]
        go_enter Tryz.func26, Tryz.ntmps26
        go_wp2
        go_ret
        exact ⟨ret_bool HT.out.symm, al1 _ _⟩
end Go.Proofs.YtgmppfhokfifgaaGreat
