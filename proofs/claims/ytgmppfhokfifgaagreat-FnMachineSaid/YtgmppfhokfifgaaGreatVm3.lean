/-
  Contracts: the reference's l07Info, l00Rises, l07Lists. Printed by gen_vm3.py.
-/
import Derived.Test.YtgmppfhokfifgaaGreatVm2
import Derived.Test.YtgmppfhokfifgaaGreatSlib
namespace Go.Proofs.YtgmppfhokfifgaaGreat
set_option maxRecDepth 10000
open Go.RowKit

set_option maxRecDepth 100000 in
set_option maxHeartbeats 12800000 in
theorem l07Info_any {wd n a0 a1 a2 a3 a4 : Int} {v : Value} {ps : List Int} {B b o : Nat} {w : World} (h : Sl w B v ps) (q0 : w.cell? ⟨b, o, none⟩ = some (.int .i64 a0)) (q1 : w.cell? ⟨b, o + 1, none⟩ = some (.int .i64 a1)) (q2 : w.cell? ⟨b, o + 2, none⟩ = some (.int .i64 a2)) (q3 : w.cell? ⟨b, o + 3, none⟩ = some (.int .i64 a3)) (q4 : w.cell? ⟨b, o + 4, none⟩ = some (.int .i64 a4)) (q5 : w.cell? ⟨b, o + 5, none⟩ = some v) (hw0 : 1 ≤ wd) (hw1 : wd ≤ 24) (hn0 : 0 ≤ n) (hn1 : n ≤ 300) :
    Calls Tryz.prog 51 #[.pointer (some ⟨b, o, none⟩), .int .i64 wd, .int .i64 n] w fun e w' => e = .returned (.bool (infB wd n a0 a1 a2 a3 a4 ps)) ∧ ∃ m, w' = w.drewN m := by
  obtain ⟨A, c, rfl, hl, hm, -⟩ := id h
  unfold maxLen at hm
  by_cases k1 : a0 = 1
  · subst k1
    cases hc1 : inR a1 1 4
    · have HT : Hid (infB wd n 1 a1 a2 a3 a4 ps = false) := Lib.hid (by simp [infB, hc1])
      go_enter Tryz.func51, Tryz.ntmps51
      go_wp2_with (first | (go_at_call 81; refine (is_same hc1 (l07Yarn_any _ _)).mono ?_; rintro e w' ⟨rfl, rfl⟩))
      go_ret
      exact ⟨ret_bool HT.out.symm, 0, rfl⟩
    · skip
      cases hc2 : bedB a2
      · have HT : Hid (infB wd n 1 a1 a2 a3 a4 ps = false) := Lib.hid (by simp [infB, hc2])
        go_enter Tryz.func51, Tryz.ntmps51
        go_wp2_with (first | (go_at_call 81; refine (is_same hc1 (l07Yarn_any _ _)).mono ?_; rintro e w' ⟨rfl, rfl⟩) | (go_at_call 82; refine (is_same hc2 (l01Bed_any _ _)).mono ?_; rintro e w' ⟨rfl, rfl⟩))
        go_ret
        exact ⟨ret_bool HT.out.symm, 0, rfl⟩
      · skip
        cases hc3 : inR a3 0 (wd - 1)
        · have HT : Hid (infB wd n 1 a1 a2 a3 a4 ps = false) := Lib.hid (by simp [infB, hc3])
          go_enter Tryz.func51, Tryz.ntmps51
          go_wp2_with (first | (go_at_call 81; refine (is_same hc1 (l07Yarn_any _ _)).mono ?_; rintro e w' ⟨rfl, rfl⟩) | (go_at_call 82; refine (is_same hc2 (l01Bed_any _ _)).mono ?_; rintro e w' ⟨rfl, rfl⟩) | (go_at_call 50; refine (is_same hc3 (l00In_any _ _ _ _)).mono ?_; rintro e w' ⟨rfl, rfl⟩))
          go_ret
          exact ⟨ret_bool HT.out.symm, 0, rfl⟩
        · skip
          cases hc4 : dirB a4
          · have HT : Hid (infB wd n 1 a1 a2 a3 a4 ps = false) := Lib.hid (by simp [infB, hc4])
            go_enter Tryz.func51, Tryz.ntmps51
            go_wp2_with (first | (go_at_call 81; refine (is_same hc1 (l07Yarn_any _ _)).mono ?_; rintro e w' ⟨rfl, rfl⟩) | (go_at_call 82; refine (is_same hc2 (l01Bed_any _ _)).mono ?_; rintro e w' ⟨rfl, rfl⟩) | (go_at_call 50; refine (is_same hc3 (l00In_any _ _ _ _)).mono ?_; rintro e w' ⟨rfl, rfl⟩) | (go_at_call 83; refine (is_same hc4 (l07Dir_any _ _)).mono ?_; rintro e w' ⟨rfl, rfl⟩))
            go_ret
            exact ⟨ret_bool HT.out.symm, 0, rfl⟩
          · skip
            have HE : Hid (infB wd n 1 a1 a2 a3 a4 ps = (decide (ps.length ≤ 4) && parsB n ps && true)) := Lib.hid (by simp [infB, kindB, hc1, hc2, hc3, hc4])
            go_enter Tryz.func51, Tryz.ntmps51
            go_wp2_with (first | (go_at_call 81; refine (is_same hc1 (l07Yarn_any _ _)).mono ?_; rintro e w' ⟨rfl, rfl⟩) | (go_at_call 82; refine (is_same hc2 (l01Bed_any _ _)).mono ?_; rintro e w' ⟨rfl, rfl⟩) | (go_at_call 50; refine (is_same hc3 (l00In_any _ _ _ _)).mono ?_; rintro e w' ⟨rfl, rfl⟩) | (go_at_call 83; refine (is_same hc4 (l07Dir_any _ _)).mono ?_; rintro e w' ⟨rfl, rfl⟩))
            go_loopw [7] (fun i wr => ∃ k : Nat, k ≤ ps.length ∧ i = .int .i64 k ∧ (∀ j, j < k → parB n ps j = true) ∧ ∃ m, wr = w.drewN m) (fun i _ => ps.length - (intOf i).toNat)
            case atStart => exact ⟨0, Nat.zero_le _, rfl, fun j h => absurd h (Nat.not_lt_zero _), 0, rfl⟩
            case round =>
              obtain ⟨k, hk, rfl, hgood, m, rfl⟩ := hrel
              have HG := Lib.hid hgood
              clear hgood
              by_cases hkl : k < ps.length
              · obtain ⟨A9, c9, e9, -, -, -, hcell⟩ := id h
                simp only [Value.slice.injEq] at e9
                obtain ⟨rfl, -, rfl⟩ := e9
                obtain ⟨b1, off, rfl, hbB, hcc⟩ := hcell (by omega)
                have r1 := hcc k hkl
                clear hcell hcc
                have hs2 := sl_pre h k hk
                have HPB : Hid (parB n ps k = (inR (gi ps k) 0 (n - 1) && !hasI (ps.take k) (gi ps k))) := Lib.hid rfl
                have HNX : Hid (parB n ps k = true → ∀ j, j < k + 1 → parB n ps j = true) := Lib.hid fun hx j hj => by
                    by_cases hjk : j < k
                    · exact HG.out j hjk
                    · obtain rfl : j = k := by omega
                      exact hx
                have HNO : Hid (parB n ps k = false → infB wd n 1 a1 a2 a3 a4 ps = false) := Lib.hid fun hx => by rw [HE.out, parsB_no hkl hx]; simp
                generalize gi ps k = x at *
                generalize ps.take k = tk at *
                cases hi : inR x 0 (n - 1)
                · have HT := Lib.hid (HNO.out (by rw [HPB.out, hi]; rfl))
                  go_wp2_with fail
                  go_quiet (first | (go_at_call 50; first | exact quiet_same_on (is_same hi (l00In_any _ _ _ _)) | exact quiet_same_at (is_same hi (l00In_any _ _ _ _)) | exact quiet_same (is_same hi (l00In_any _ _ _ _))))
                  go_wp2
                  go_ret
                  exact ⟨ret_bool HT.out.symm, quiet_end _ _ _⟩
                · skip
                  cases hh : hasI tk x
                  · have HX := Lib.hid (HNX.out (by rw [HPB.out, hi, hh]; rfl))
                    go_wp2_with fail
                    go_quiet (first | (go_at_call 50; first | exact quiet_same_on (is_same hi (l00In_any _ _ _ _)) | exact quiet_same_at (is_same hi (l00In_any _ _ _ _)) | exact quiet_same (is_same hi (l00In_any _ _ _ _))) | (go_at_call 54; first | exact quiet_same_on (is_same hh (l00Has_any _ _ _ _ _ (hs2.drewN _))) | exact quiet_same_at (is_same hh (l00Has_any _ _ _ _ _ (hs2.drewN _))) | exact quiet_same (is_same hh (l00Has_any _ _ _ _ _ (hs2.drewN _)))))
                    go_wp2
                    go_roundw
                    case rel => exact ⟨k + 1, by omega, by go_num, HX.out, _, rfl⟩
                    case measure => simp [intOf]; omega
                  · have HT := Lib.hid (HNO.out (by rw [HPB.out, hi, hh]; rfl))
                    go_wp2_with fail
                    go_quiet (first | (go_at_call 50; first | exact quiet_same_on (is_same hi (l00In_any _ _ _ _)) | exact quiet_same_at (is_same hi (l00In_any _ _ _ _)) | exact quiet_same (is_same hi (l00In_any _ _ _ _))) | (go_at_call 54; first | exact quiet_same_on (is_same hh (l00Has_any _ _ _ _ _ (hs2.drewN _))) | exact quiet_same_at (is_same hh (l00Has_any _ _ _ _ _ (hs2.drewN _))) | exact quiet_same (is_same hh (l00Has_any _ _ _ _ _ (hs2.drewN _)))))
                    go_wp2
                    go_ret
                    exact ⟨ret_bool HT.out.symm, quiet_end _ _ _⟩
              · have HP := Lib.hid (parsB_yes (n := n) (ps := ps) fun j hj => HG.out j (by omega))
                by_cases hlen : ps.length ≤ 4
                · have HT : Hid (infB wd n 1 a1 a2 a3 a4 ps = true) := Lib.hid (by rw [HE.out, HP.out]; simp [hlen])
                  have z1 : (ps.length : Int) ≤ 4 := by omega
                  by_cases hz : ps.length = 0
                  · have z2 : ((ps.length : Int) == 0) = true := by rw [beq_iff_eq]; omega
                    have z3 : ¬ 0 < (ps.length : Int) := by omega
                    have z4 : (ps.length : Int) = 0 := by omega
                    clear hz
                    go_wp2
                    go_ret
                    exact ⟨ret_bool HT.out.symm, _, rfl⟩
                  · have z2 : ((ps.length : Int) == 0) = false := by rw [beq_eq_false_iff_ne]; omega
                    have z3 : 0 < (ps.length : Int) := by omega
                    have z5 : 0 < ps.length := by omega
                    go_wp2
                    go_ret
                    exact ⟨ret_bool HT.out.symm, _, rfl⟩
                · have HT : Hid (infB wd n 1 a1 a2 a3 a4 ps = false) := Lib.hid (by rw [HE.out]; simp [hlen])
                  have z1 : ¬ (ps.length : Int) ≤ 4 := by omega
                  have z6 : (4 : Int) < (ps.length : Int) := by omega
                  go_wp2
                  go_ret
                  exact ⟨ret_bool HT.out.symm, _, rfl⟩
  · skip
    by_cases k2 : a0 = 2
    · subst k2
      cases hc1 : inR a1 1 4
      · have HT : Hid (infB wd n 2 a1 a2 a3 a4 ps = false) := Lib.hid (by simp [infB, hc1])
        go_enter Tryz.func51, Tryz.ntmps51
        go_wp2_with (first | (go_at_call 81; refine (is_same hc1 (l07Yarn_any _ _)).mono ?_; rintro e w' ⟨rfl, rfl⟩))
        go_ret
        exact ⟨ret_bool HT.out.symm, 0, rfl⟩
      · skip
        cases hc2 : bedB a2
        · have HT : Hid (infB wd n 2 a1 a2 a3 a4 ps = false) := Lib.hid (by simp [infB, hc2])
          go_enter Tryz.func51, Tryz.ntmps51
          go_wp2_with (first | (go_at_call 81; refine (is_same hc1 (l07Yarn_any _ _)).mono ?_; rintro e w' ⟨rfl, rfl⟩) | (go_at_call 82; refine (is_same hc2 (l01Bed_any _ _)).mono ?_; rintro e w' ⟨rfl, rfl⟩))
          go_ret
          exact ⟨ret_bool HT.out.symm, 0, rfl⟩
        · skip
          cases hc3 : inR a3 0 (wd - 1)
          · have HT : Hid (infB wd n 2 a1 a2 a3 a4 ps = false) := Lib.hid (by simp [infB, hc3])
            go_enter Tryz.func51, Tryz.ntmps51
            go_wp2_with (first | (go_at_call 81; refine (is_same hc1 (l07Yarn_any _ _)).mono ?_; rintro e w' ⟨rfl, rfl⟩) | (go_at_call 82; refine (is_same hc2 (l01Bed_any _ _)).mono ?_; rintro e w' ⟨rfl, rfl⟩) | (go_at_call 50; refine (is_same hc3 (l00In_any _ _ _ _)).mono ?_; rintro e w' ⟨rfl, rfl⟩))
            go_ret
            exact ⟨ret_bool HT.out.symm, 0, rfl⟩
          · skip
            cases hc4 : dirB a4
            · have HT : Hid (infB wd n 2 a1 a2 a3 a4 ps = false) := Lib.hid (by simp [infB, hc4])
              go_enter Tryz.func51, Tryz.ntmps51
              go_wp2_with (first | (go_at_call 81; refine (is_same hc1 (l07Yarn_any _ _)).mono ?_; rintro e w' ⟨rfl, rfl⟩) | (go_at_call 82; refine (is_same hc2 (l01Bed_any _ _)).mono ?_; rintro e w' ⟨rfl, rfl⟩) | (go_at_call 50; refine (is_same hc3 (l00In_any _ _ _ _)).mono ?_; rintro e w' ⟨rfl, rfl⟩) | (go_at_call 83; refine (is_same hc4 (l07Dir_any _ _)).mono ?_; rintro e w' ⟨rfl, rfl⟩))
              go_ret
              exact ⟨ret_bool HT.out.symm, 0, rfl⟩
            · skip
              have HE : Hid (infB wd n 2 a1 a2 a3 a4 ps = (decide (ps.length ≤ 4) && parsB n ps && (ps.length == 0))) := Lib.hid (by simp [infB, kindB, hc1, hc2, hc3, hc4])
              go_enter Tryz.func51, Tryz.ntmps51
              go_wp2_with (first | (go_at_call 81; refine (is_same hc1 (l07Yarn_any _ _)).mono ?_; rintro e w' ⟨rfl, rfl⟩) | (go_at_call 82; refine (is_same hc2 (l01Bed_any _ _)).mono ?_; rintro e w' ⟨rfl, rfl⟩) | (go_at_call 50; refine (is_same hc3 (l00In_any _ _ _ _)).mono ?_; rintro e w' ⟨rfl, rfl⟩) | (go_at_call 83; refine (is_same hc4 (l07Dir_any _ _)).mono ?_; rintro e w' ⟨rfl, rfl⟩))
              go_loopw [7] (fun i wr => ∃ k : Nat, k ≤ ps.length ∧ i = .int .i64 k ∧ (∀ j, j < k → parB n ps j = true) ∧ ∃ m, wr = w.drewN m) (fun i _ => ps.length - (intOf i).toNat)
              case atStart => exact ⟨0, Nat.zero_le _, rfl, fun j h => absurd h (Nat.not_lt_zero _), 0, rfl⟩
              case round =>
                obtain ⟨k, hk, rfl, hgood, m, rfl⟩ := hrel
                have HG := Lib.hid hgood
                clear hgood
                by_cases hkl : k < ps.length
                · obtain ⟨A9, c9, e9, -, -, -, hcell⟩ := id h
                  simp only [Value.slice.injEq] at e9
                  obtain ⟨rfl, -, rfl⟩ := e9
                  obtain ⟨b1, off, rfl, hbB, hcc⟩ := hcell (by omega)
                  have r1 := hcc k hkl
                  clear hcell hcc
                  have hs2 := sl_pre h k hk
                  have HPB : Hid (parB n ps k = (inR (gi ps k) 0 (n - 1) && !hasI (ps.take k) (gi ps k))) := Lib.hid rfl
                  have HNX : Hid (parB n ps k = true → ∀ j, j < k + 1 → parB n ps j = true) := Lib.hid fun hx j hj => by
                      by_cases hjk : j < k
                      · exact HG.out j hjk
                      · obtain rfl : j = k := by omega
                        exact hx
                  have HNO : Hid (parB n ps k = false → infB wd n 2 a1 a2 a3 a4 ps = false) := Lib.hid fun hx => by rw [HE.out, parsB_no hkl hx]; simp
                  generalize gi ps k = x at *
                  generalize ps.take k = tk at *
                  cases hi : inR x 0 (n - 1)
                  · have HT := Lib.hid (HNO.out (by rw [HPB.out, hi]; rfl))
                    go_wp2_with fail
                    go_quiet (first | (go_at_call 50; first | exact quiet_same_on (is_same hi (l00In_any _ _ _ _)) | exact quiet_same_at (is_same hi (l00In_any _ _ _ _)) | exact quiet_same (is_same hi (l00In_any _ _ _ _))))
                    go_wp2
                    go_ret
                    exact ⟨ret_bool HT.out.symm, quiet_end _ _ _⟩
                  · skip
                    cases hh : hasI tk x
                    · have HX := Lib.hid (HNX.out (by rw [HPB.out, hi, hh]; rfl))
                      go_wp2_with fail
                      go_quiet (first | (go_at_call 50; first | exact quiet_same_on (is_same hi (l00In_any _ _ _ _)) | exact quiet_same_at (is_same hi (l00In_any _ _ _ _)) | exact quiet_same (is_same hi (l00In_any _ _ _ _))) | (go_at_call 54; first | exact quiet_same_on (is_same hh (l00Has_any _ _ _ _ _ (hs2.drewN _))) | exact quiet_same_at (is_same hh (l00Has_any _ _ _ _ _ (hs2.drewN _))) | exact quiet_same (is_same hh (l00Has_any _ _ _ _ _ (hs2.drewN _)))))
                      go_wp2
                      go_roundw
                      case rel => exact ⟨k + 1, by omega, by go_num, HX.out, _, rfl⟩
                      case measure => simp [intOf]; omega
                    · have HT := Lib.hid (HNO.out (by rw [HPB.out, hi, hh]; rfl))
                      go_wp2_with fail
                      go_quiet (first | (go_at_call 50; first | exact quiet_same_on (is_same hi (l00In_any _ _ _ _)) | exact quiet_same_at (is_same hi (l00In_any _ _ _ _)) | exact quiet_same (is_same hi (l00In_any _ _ _ _))) | (go_at_call 54; first | exact quiet_same_on (is_same hh (l00Has_any _ _ _ _ _ (hs2.drewN _))) | exact quiet_same_at (is_same hh (l00Has_any _ _ _ _ _ (hs2.drewN _))) | exact quiet_same (is_same hh (l00Has_any _ _ _ _ _ (hs2.drewN _)))))
                      go_wp2
                      go_ret
                      exact ⟨ret_bool HT.out.symm, quiet_end _ _ _⟩
                · have HP := Lib.hid (parsB_yes (n := n) (ps := ps) fun j hj => HG.out j (by omega))
                  by_cases hlen : ps.length ≤ 4
                  · have z1 : (ps.length : Int) ≤ 4 := by omega
                    by_cases hz : ps.length = 0
                    · have HT : Hid (infB wd n 2 a1 a2 a3 a4 ps = true) := Lib.hid (by rw [HE.out, HP.out, hz]; rfl)
                      have z2 : ((ps.length : Int) == 0) = true := by rw [beq_iff_eq]; omega
                      have z3 : ¬ 0 < (ps.length : Int) := by omega
                      have z4 : (ps.length : Int) = 0 := by omega
                      clear hz
                      go_wp2
                      go_ret
                      exact ⟨ret_bool HT.out.symm, _, rfl⟩
                    · have z5 : 0 < ps.length := by omega
                      have HT : Hid (infB wd n 2 a1 a2 a3 a4 ps = false) := Lib.hid (by rw [HE.out, HP.out, show (ps.length == 0) = false by rw [beq_eq_false_iff_ne]; omega]; simp)
                      have z2 : ((ps.length : Int) == 0) = false := by rw [beq_eq_false_iff_ne]; omega
                      have z3 : 0 < (ps.length : Int) := by omega
                      go_wp2
                      go_ret
                      exact ⟨ret_bool HT.out.symm, _, rfl⟩
                  · have HT : Hid (infB wd n 2 a1 a2 a3 a4 ps = false) := Lib.hid (by rw [HE.out]; simp [hlen])
                    have z1 : ¬ (ps.length : Int) ≤ 4 := by omega
                    have z6 : (4 : Int) < (ps.length : Int) := by omega
                    go_wp2
                    go_ret
                    exact ⟨ret_bool HT.out.symm, _, rfl⟩
    · skip
      by_cases k5 : a0 = 5
      · subst k5
        cases hc1 : inR a1 1 4
        · have HT : Hid (infB wd n 5 a1 a2 a3 a4 ps = false) := Lib.hid (by simp [infB, hc1])
          go_enter Tryz.func51, Tryz.ntmps51
          go_wp2_with (first | (go_at_call 81; refine (is_same hc1 (l07Yarn_any _ _)).mono ?_; rintro e w' ⟨rfl, rfl⟩))
          go_ret
          exact ⟨ret_bool HT.out.symm, 0, rfl⟩
        · skip
          cases hc2 : bedB a2
          · have HT : Hid (infB wd n 5 a1 a2 a3 a4 ps = false) := Lib.hid (by simp [infB, hc2])
            go_enter Tryz.func51, Tryz.ntmps51
            go_wp2_with (first | (go_at_call 81; refine (is_same hc1 (l07Yarn_any _ _)).mono ?_; rintro e w' ⟨rfl, rfl⟩) | (go_at_call 82; refine (is_same hc2 (l01Bed_any _ _)).mono ?_; rintro e w' ⟨rfl, rfl⟩))
            go_ret
            exact ⟨ret_bool HT.out.symm, 0, rfl⟩
          · skip
            cases hc3 : inR a3 0 (wd - 1)
            · have HT : Hid (infB wd n 5 a1 a2 a3 a4 ps = false) := Lib.hid (by simp [infB, hc3])
              go_enter Tryz.func51, Tryz.ntmps51
              go_wp2_with (first | (go_at_call 81; refine (is_same hc1 (l07Yarn_any _ _)).mono ?_; rintro e w' ⟨rfl, rfl⟩) | (go_at_call 82; refine (is_same hc2 (l01Bed_any _ _)).mono ?_; rintro e w' ⟨rfl, rfl⟩) | (go_at_call 50; refine (is_same hc3 (l00In_any _ _ _ _)).mono ?_; rintro e w' ⟨rfl, rfl⟩))
              go_ret
              exact ⟨ret_bool HT.out.symm, 0, rfl⟩
            · skip
              cases hc4 : dirB a4
              · have HT : Hid (infB wd n 5 a1 a2 a3 a4 ps = false) := Lib.hid (by simp [infB, hc4])
                go_enter Tryz.func51, Tryz.ntmps51
                go_wp2_with (first | (go_at_call 81; refine (is_same hc1 (l07Yarn_any _ _)).mono ?_; rintro e w' ⟨rfl, rfl⟩) | (go_at_call 82; refine (is_same hc2 (l01Bed_any _ _)).mono ?_; rintro e w' ⟨rfl, rfl⟩) | (go_at_call 50; refine (is_same hc3 (l00In_any _ _ _ _)).mono ?_; rintro e w' ⟨rfl, rfl⟩) | (go_at_call 83; refine (is_same hc4 (l07Dir_any _ _)).mono ?_; rintro e w' ⟨rfl, rfl⟩))
                go_ret
                exact ⟨ret_bool HT.out.symm, 0, rfl⟩
              · skip
                have HE : Hid (infB wd n 5 a1 a2 a3 a4 ps = (decide (ps.length ≤ 4) && parsB n ps && decide (0 < ps.length))) := Lib.hid (by simp [infB, kindB, hc1, hc2, hc3, hc4])
                go_enter Tryz.func51, Tryz.ntmps51
                go_wp2_with (first | (go_at_call 81; refine (is_same hc1 (l07Yarn_any _ _)).mono ?_; rintro e w' ⟨rfl, rfl⟩) | (go_at_call 82; refine (is_same hc2 (l01Bed_any _ _)).mono ?_; rintro e w' ⟨rfl, rfl⟩) | (go_at_call 50; refine (is_same hc3 (l00In_any _ _ _ _)).mono ?_; rintro e w' ⟨rfl, rfl⟩) | (go_at_call 83; refine (is_same hc4 (l07Dir_any _ _)).mono ?_; rintro e w' ⟨rfl, rfl⟩))
                go_loopw [7] (fun i wr => ∃ k : Nat, k ≤ ps.length ∧ i = .int .i64 k ∧ (∀ j, j < k → parB n ps j = true) ∧ ∃ m, wr = w.drewN m) (fun i _ => ps.length - (intOf i).toNat)
                case atStart => exact ⟨0, Nat.zero_le _, rfl, fun j h => absurd h (Nat.not_lt_zero _), 0, rfl⟩
                case round =>
                  obtain ⟨k, hk, rfl, hgood, m, rfl⟩ := hrel
                  have HG := Lib.hid hgood
                  clear hgood
                  by_cases hkl : k < ps.length
                  · obtain ⟨A9, c9, e9, -, -, -, hcell⟩ := id h
                    simp only [Value.slice.injEq] at e9
                    obtain ⟨rfl, -, rfl⟩ := e9
                    obtain ⟨b1, off, rfl, hbB, hcc⟩ := hcell (by omega)
                    have r1 := hcc k hkl
                    clear hcell hcc
                    have hs2 := sl_pre h k hk
                    have HPB : Hid (parB n ps k = (inR (gi ps k) 0 (n - 1) && !hasI (ps.take k) (gi ps k))) := Lib.hid rfl
                    have HNX : Hid (parB n ps k = true → ∀ j, j < k + 1 → parB n ps j = true) := Lib.hid fun hx j hj => by
                        by_cases hjk : j < k
                        · exact HG.out j hjk
                        · obtain rfl : j = k := by omega
                          exact hx
                    have HNO : Hid (parB n ps k = false → infB wd n 5 a1 a2 a3 a4 ps = false) := Lib.hid fun hx => by rw [HE.out, parsB_no hkl hx]; simp
                    generalize gi ps k = x at *
                    generalize ps.take k = tk at *
                    cases hi : inR x 0 (n - 1)
                    · have HT := Lib.hid (HNO.out (by rw [HPB.out, hi]; rfl))
                      go_wp2_with fail
                      go_quiet (first | (go_at_call 50; first | exact quiet_same_on (is_same hi (l00In_any _ _ _ _)) | exact quiet_same_at (is_same hi (l00In_any _ _ _ _)) | exact quiet_same (is_same hi (l00In_any _ _ _ _))))
                      go_wp2
                      go_ret
                      exact ⟨ret_bool HT.out.symm, quiet_end _ _ _⟩
                    · skip
                      cases hh : hasI tk x
                      · have HX := Lib.hid (HNX.out (by rw [HPB.out, hi, hh]; rfl))
                        go_wp2_with fail
                        go_quiet (first | (go_at_call 50; first | exact quiet_same_on (is_same hi (l00In_any _ _ _ _)) | exact quiet_same_at (is_same hi (l00In_any _ _ _ _)) | exact quiet_same (is_same hi (l00In_any _ _ _ _))) | (go_at_call 54; first | exact quiet_same_on (is_same hh (l00Has_any _ _ _ _ _ (hs2.drewN _))) | exact quiet_same_at (is_same hh (l00Has_any _ _ _ _ _ (hs2.drewN _))) | exact quiet_same (is_same hh (l00Has_any _ _ _ _ _ (hs2.drewN _)))))
                        go_wp2
                        go_roundw
                        case rel => exact ⟨k + 1, by omega, by go_num, HX.out, _, rfl⟩
                        case measure => simp [intOf]; omega
                      · have HT := Lib.hid (HNO.out (by rw [HPB.out, hi, hh]; rfl))
                        go_wp2_with fail
                        go_quiet (first | (go_at_call 50; first | exact quiet_same_on (is_same hi (l00In_any _ _ _ _)) | exact quiet_same_at (is_same hi (l00In_any _ _ _ _)) | exact quiet_same (is_same hi (l00In_any _ _ _ _))) | (go_at_call 54; first | exact quiet_same_on (is_same hh (l00Has_any _ _ _ _ _ (hs2.drewN _))) | exact quiet_same_at (is_same hh (l00Has_any _ _ _ _ _ (hs2.drewN _))) | exact quiet_same (is_same hh (l00Has_any _ _ _ _ _ (hs2.drewN _)))))
                        go_wp2
                        go_ret
                        exact ⟨ret_bool HT.out.symm, quiet_end _ _ _⟩
                  · have HP := Lib.hid (parsB_yes (n := n) (ps := ps) fun j hj => HG.out j (by omega))
                    by_cases hlen : ps.length ≤ 4
                    · have z1 : (ps.length : Int) ≤ 4 := by omega
                      by_cases hz : ps.length = 0
                      · have HT : Hid (infB wd n 5 a1 a2 a3 a4 ps = false) := Lib.hid (by rw [HE.out, HP.out, hz]; rfl)
                        have z2 : ((ps.length : Int) == 0) = true := by rw [beq_iff_eq]; omega
                        have z3 : ¬ 0 < (ps.length : Int) := by omega
                        have z4 : (ps.length : Int) = 0 := by omega
                        clear hz
                        go_wp2
                        go_ret
                        exact ⟨ret_bool HT.out.symm, _, rfl⟩
                      · have z5 : 0 < ps.length := by omega
                        have HT : Hid (infB wd n 5 a1 a2 a3 a4 ps = true) := Lib.hid (by rw [HE.out, HP.out, show decide (0 < ps.length) = true by rw [decide_eq_true_eq]; omega, show decide (ps.length ≤ 4) = true by rw [decide_eq_true_eq]; omega]; simp)
                        have z2 : ((ps.length : Int) == 0) = false := by rw [beq_eq_false_iff_ne]; omega
                        have z3 : 0 < (ps.length : Int) := by omega
                        go_wp2
                        go_ret
                        exact ⟨ret_bool HT.out.symm, _, rfl⟩
                    · have HT : Hid (infB wd n 5 a1 a2 a3 a4 ps = false) := Lib.hid (by rw [HE.out]; simp [hlen])
                      have z1 : ¬ (ps.length : Int) ≤ 4 := by omega
                      have z6 : (4 : Int) < (ps.length : Int) := by omega
                      go_wp2
                      go_ret
                      exact ⟨ret_bool HT.out.symm, _, rfl⟩
      · have HT : Hid (infB wd n a0 a1 a2 a3 a4 ps = false) := Lib.hid (by simp [infB, kindB, k1, k2, k5])
        have t1 : (a0 != 1) = true := by simp [k1]
        have t2 : (a0 != 2) = true := by simp [k2]
        have t5 : (a0 != 5) = true := by simp [k5]
        go_enter Tryz.func51, Tryz.ntmps51
        go_wp2
        go_ret
        exact ⟨ret_bool HT.out.symm, 0, rfl⟩
def risB (n : Int) (xs : List Int) (i : Nat) : Bool := inR (gi xs i) 0 (n - 1) && !(decide (0 < i) && decide (gi xs i ≤ gi xs (i - 1)))
def risesB (n : Int) (xs : List Int) : Bool := (List.range xs.length).all (risB n xs)
theorem risesB_no {n : Int} {ps : List Int} {k : Nat} (hk : k < ps.length) (h : risB n ps k = false) : risesB n ps = false := by
  rw [← Bool.not_eq_true]; intro h2
  rw [risesB, List.all_eq_true] at h2
  have := h2 k (List.mem_range.2 hk)
  rw [h] at this; cases this
theorem risesB_yes {n : Int} {ps : List Int} (h : ∀ j, j < ps.length → risB n ps j = true) : risesB n ps = true := by
  rw [risesB, List.all_eq_true]; exact fun j hj => h j (List.mem_range.1 hj)
set_option maxHeartbeats 3200000 in
theorem l00Rises_any {n : Int} {v : Value} {xs : List Int} {B : Nat} {w : World} (h : Sl w B v xs) :
    Calls Tryz.prog 53 #[v, .int .i64 0, .int .i64 (n - 1)] w fun e w' => e = .returned (.bool (risesB n xs)) ∧ ∃ m, w' = w.drewN m := by
  obtain ⟨A, c, rfl, hl, hm, _, hcells⟩ := id h
  unfold maxLen at hm
  have HC := Lib.hid hcells
  clear hcells
  generalize hN : n - 1 = N1 at *
  go_enter Tryz.func53, Tryz.ntmps53
  go_wp2
  go_loopw [7] (fun i wr => ∃ k : Nat, k ≤ xs.length ∧ i = .int .i64 k ∧ (∀ j, j < k → risB n xs j = true) ∧ ∃ m, wr = w.drewN m) (fun i _ => xs.length - (intOf i).toNat)
  case atStart => exact ⟨0, Nat.zero_le _, rfl, fun j h => absurd h (Nat.not_lt_zero _), 0, rfl⟩
  case round =>
    obtain ⟨k, hk, rfl, hgood, m, rfl⟩ := hrel
    have HG := Lib.hid hgood
    clear hgood
    by_cases hlt : k < xs.length
    · obtain ⟨b, off, rfl, hbB, hcell⟩ := HC.out (by omega)
      have r1 := hcell k hlt
      have HPB : Hid (risB n xs k = (inR (gi xs k) 0 N1 && !(decide (0 < k) && decide (gi xs k ≤ gi xs (k - 1))))) := Lib.hid (by rw [← hN]; rfl)
      have HNX : Hid (risB n xs k = true → ∀ j, j < k + 1 → risB n xs j = true) := Lib.hid fun hx j hj => by
        by_cases hjk : j < k
        · exact HG.out j hjk
        · obtain rfl : j = k := by omega
          exact hx
      have HNO : Hid (risB n xs k = false → risesB n xs = false) := Lib.hid fun hx => risesB_no hlt hx
      cases hi : inR (gi xs k) 0 N1
      · have HT := Lib.hid (HNO.out (by rw [HPB.out, hi]; rfl))
        clear hcell
        generalize gi xs k = x at *
        go_wp2_with fail
        go_quiet (first | (go_at_call 50; first | exact quiet_same_on (is_same hi (l00In_any _ _ _ _)) | exact quiet_same_at (is_same hi (l00In_any _ _ _ _)) | exact quiet_same (is_same hi (l00In_any _ _ _ _))))
        go_wp2
        go_ret
        exact ⟨ret_bool HT.out.symm, quiet_end _ _ _⟩
      · by_cases h0 : k = 0
        · subst h0
          have HX := Lib.hid (HNX.out (by rw [HPB.out, hi]; rfl))
          clear hcell
          rw [Nat.add_zero] at r1
          generalize gi xs 0 = x at *
          go_wp2_with fail
          go_quiet (first | (go_at_call 50; first | exact quiet_same_on (is_same hi (l00In_any _ _ _ _)) | exact quiet_same_at (is_same hi (l00In_any _ _ _ _)) | exact quiet_same (is_same hi (l00In_any _ _ _ _))))
          go_wp2
          go_roundw
          case rel => exact ⟨1, by omega, by go_num, HX.out, _, rfl⟩
          case measure => simp [intOf]; omega
        · obtain ⟨k1, rfl⟩ : ∃ k1, k = k1 + 1 := ⟨k - 1, by omega⟩
          have r0 := hcell k1 (by omega)
          have hk0 : (0 : Int) < ((k1 + 1 : Nat) : Int) := by omega
          have e1 : (((k1 + 1 : Nat) : Int) - 1) = (k1 : Int) := by omega
          have HE1 : Hid (risB n xs (k1 + 1) = !decide (gi xs (k1 + 1) ≤ gi xs k1)) := Lib.hid (by rw [HPB.out, hi]; simp)
          clear hcell
          generalize gi xs (k1 + 1) = x at *
          generalize gi xs k1 = y at *
          by_cases hle : x ≤ y
          · have HT := Lib.hid (HNO.out (by rw [HE1.out]; simp [hle]))
            have hge : y ≥ x := hle
            go_wp2_with fail
            go_quiet (first | (go_at_call 50; first | exact quiet_same_on (is_same hi (l00In_any _ _ _ _)) | exact quiet_same_at (is_same hi (l00In_any _ _ _ _)) | exact quiet_same (is_same hi (l00In_any _ _ _ _))))
            go_wp2
            go_ret
            exact ⟨ret_bool HT.out.symm, quiet_end _ _ _⟩
          · have HX := Lib.hid (HNX.out (by rw [HE1.out]; simp [hle]))
            have hge : ¬ y ≥ x := hle
            go_wp2_with fail
            go_quiet (first | (go_at_call 50; first | exact quiet_same_on (is_same hi (l00In_any _ _ _ _)) | exact quiet_same_at (is_same hi (l00In_any _ _ _ _)) | exact quiet_same (is_same hi (l00In_any _ _ _ _))))
            go_wp2
            go_roundw
            case rel => exact ⟨k1 + 1 + 1, by omega, by go_num, HX.out, _, rfl⟩
            case measure => simp [intOf]; omega
    · have HT := Lib.hid (risesB_yes (n := n) (ps := xs) fun j hj => HG.out j (by omega))
      go_wp2
      go_ret
      exact ⟨ret_bool HT.out.symm, _, rfl⟩
/-- All rows one behind the other, if none is too long. -/
def shortB (xss : List (List Int)) : Bool := xss.all fun xs => decide (xs.length ≤ 4)
theorem shortB_no {xss : List (List Int)} {k : Nat} (hk : k < xss.length) (h : ¬ (gl xss k).length ≤ 4) : shortB xss = false := by
  rw [← Bool.not_eq_true]; intro h2
  rw [shortB, List.all_eq_true] at h2
  have := h2 _ (gl_mem hk)
  simp at this; exact h this
theorem shortB_yes {xss : List (List Int)} (h : ∀ j, j < xss.length → (gl xss j).length ≤ 4) : shortB xss = true := by
  rw [shortB, List.all_eq_true]
  intro x hx
  obtain ⟨j, hj, rfl⟩ := List.getElem_of_mem hx
  rw [← gl_eq hj]
  simpa using h j hj
theorem flatSS_len (xss : List (List Int)) : xss.flatten.length = lenSS xss := by
  induction xss with
  | nil => rfl
  | cons x r ih => simp [lenSS, ih]
def lstR (xss : List (List Int)) : List Int := if shortB xss then xss.flatten else []
theorem lstR_yes {xss : List (List Int)} (h : shortB xss = true) : lstR xss = xss.flatten := by simp [lstR, h]
theorem lstR_no {xss : List (List Int)} (h : shortB xss = false) : lstR xss = [] := by simp [lstR, h]
set_option maxHeartbeats 1600000 in
theorem l07Lists_any {v : Value} {xss : List (List Int)} {B : Nat} {w : World} (h : SlS w B v xss) (hB : B ≤ w.heap.size) (hsz : lenSS xss ≤ 10000000) :
    Calls Tryz.prog 52 #[v] w fun e w' => ∃ r, e = .returned (.tuple #[r, .bool (shortB xss)]) ∧ Ow w' w.heap.size w'.heap.size r (lstR xss) ∧ Below w.heap.size w w' := by
  obtain ⟨A, c, rfl, hl, hm, -, hc⟩ := h
  unfold maxLen at hm
  have HC := Lib.hid hc
  clear hc
  have hO0 := Ow.empty w
  have hb0 := al1 w (.cells #[] 2)
  go_enter Tryz.func52, Tryz.ntmps52
  go_wp2
  go_loopw [4, 5] (fun x i wr => ∃ k : Nat, k ≤ xss.length ∧ i = .int .i64 k ∧ (∀ j, j < k → (gl xss j).length ≤ 4) ∧ Ow wr w.heap.size wr.heap.size x (xss.take k).flatten ∧ Below w.heap.size w wr) (fun _ i _ => xss.length - (intOf i).toNat)
  case atStart => exact ⟨0, Nat.zero_le _, rfl, fun j h => absurd h (Nat.not_lt_zero _), hO0, hb0⟩
  case round =>
    obtain ⟨k, hk, rfl, hgood, hO, hb⟩ := hrel
    have HG := Lib.hid hgood
    clear hgood hO0 hb0
    by_cases hlt : k < xss.length
    · obtain ⟨b, off, rfl, hbB, hcell⟩ := HC.out (by omega)
      obtain ⟨u, p0, s0⟩ := hcell k hlt
      have hz := hb.size
      have p1 : wr.cell? ⟨b, off + k, none⟩ = some u := by rw [hb.cell (by simp only; omega)]; exact p0
      have s1 := s0.below hb hB
      obtain ⟨Au, cu, rfl, hul, hum, -⟩ := id s1
      unfold maxLen at hum
      have HTK := Lib.hid (show (xss.take (k + 1)).flatten = (xss.take k).flatten ++ gl xss k by rw [take_gl hlt, List.flatten_append]; simp)
      have hrow := lenSS_row hlt
      have hfl := flatSS_len (xss.take k)
      have HNO : Hid (¬ (gl xss k).length ≤ 4 → shortB xss = false) := Lib.hid fun hx => shortB_no hlt hx
      have HNX : Hid ((gl xss k).length ≤ 4 → ∀ j, j < k + 1 → (gl xss j).length ≤ 4) := Lib.hid fun hx j hj => by
        by_cases hjk : j < k
        · exact HG.out j hjk
        · obtain rfl : j = k := by omega
          exact hx
      clear hcell p0 s0
      generalize gl xss k = cur at *
      generalize (xss.take k).flatten = acc at *
      have HFL := Lib.hid hfl
      have HB := Lib.hid hb
      have hbd : acc.length + cur.length ≤ 1000000000 := by omega
      clear hfl hb
      by_cases h4 : cur.length ≤ 4
      · have h4I : ¬ (4 : Int) < (cur.length : Int) := by omega
        have HX := Lib.hid (HNX.out h4)
        go_wp2_with (at_builtin; refine wpList_append_list rfl _ _ rfl _ _ _ _ _ _ acc cur rfl rfl hO s1 hz hbd ?_; intro v1 w1 hO1 hg1 _)
        have hb1 := hO.grown hg1 (Nat.le_refl _) hz
        go_roundw
        case rel => exact ⟨k + 1, by omega, by go_num, HX.out, by rw [HTK.out]; exact hO1, HB.out.trans hb1⟩
        case measure => simp [intOf]; omega
      · have h4I : (4 : Int) < (cur.length : Int) := by omega
        have HT := Lib.hid (HNO.out h4)
        go_wp2
        go_ret2
        exact ⟨_, by rw [HT.out]; rfl, by rw [lstR_no HT.out]; exact Ow.nil _ _ _, HB.out⟩
    · obtain rfl : k = xss.length := by omega
      rw [List.take_length] at hO
      have HT := Lib.hid (shortB_yes HG.out)
      go_wp2
      go_ret2
      exact ⟨_, by rw [HT.out]; rfl, by rw [lstR_yes HT.out]; exact hO, hb⟩
end Go.Proofs.YtgmppfhokfifgaaGreat
