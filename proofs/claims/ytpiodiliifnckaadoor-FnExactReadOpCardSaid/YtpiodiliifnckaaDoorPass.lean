/-
  Contracts: passes by value: toPass, ValidPass of the program and of the reference.
-/
import Derived.Test.YtpiodiliifnckaaDoorSmall
import Derived.BigGuardPart
namespace Go.Proofs.YtpiodiliifnckaaDoor
set_option maxRecDepth 10000
open Go.RowKit Go.Sort

/-- Is a pass valid? (kind, direction, carrier, rack, first, count) -/
def vPass (k d c r f n : Int) : Bool := inR r (-3) 3 && inR f 0 1499 && inR n 1 (1500 - f) && (if k = 1 then dirB d && inR c 1 4 else inR k 2 3 && d == 0 && c == 0)

set_option maxHeartbeats 1000000 in
theorem toPass_any (k d c r f n : Int) (w : World) :
    Calls Tryd.prog 8 #[.agg #[.int .i64 k, .int .i64 d, .int .i64 c, .int .i64 r, .int .i64 f, .int .i64 n]] w fun e w' =>
      e = .returned (.agg #[.int .i64 k, .int .i64 d, .int .i64 c, .int .i64 r, .int .i64 f, .int .i64 n]) ∧ Below w.heap.size w w' := by
  go_enter Tryd.func8, Tryd.ntmps8
  go_wp2
  go_returns
  exact ⟨rfl, by go_grown⟩
set_option maxHeartbeats 4000000 in
theorem impl_ValidPass_any (k d c r f n : Int) (w : World) :
    Calls Tryd.prog 24 #[.agg #[.int .i64 k, .int .i64 d, .int .i64 c, .int .i64 r, .int .i64 f, .int .i64 n]] w fun e w' => e = .returned (.bool (vPass k d c r f n)) ∧ Below w.heap.size w w' := by
  cases h1 : inR r (-3) 3
  · have HV := Lib.hid (show vPass k d c r f n = false by simp [vPass, h1])
    go_enter Tryd.func24, Tryd.ntmps24
    go_wp2_with (first | (go_at_call 47; refine (isRack_any _ _).mono ?_; rintro e w' ⟨rfl, rfl⟩))
    go_ret
    exact ⟨ret_bool HV.out.symm, al1 _ _⟩
  · cases h2 : inR f 0 1499
    · have HV := Lib.hid (show vPass k d c r f n = false by simp [vPass, h2])
      go_enter Tryd.func24, Tryd.ntmps24
      go_wp2_with (first | (go_at_call 47; refine (isRack_any _ _).mono ?_; rintro e w' ⟨rfl, rfl⟩) | (go_at_call 48; refine (within_any _ _ _ _).mono ?_; rintro e w' ⟨rfl, rfl⟩))
      go_ret
      exact ⟨ret_bool HV.out.symm, al1 _ _⟩
    · obtain ⟨f0, f1⟩ := inR_iff.1 h2
      cases h3 : inR n 1 (1500 - f)
      · have HV := Lib.hid (show vPass k d c r f n = false by simp [vPass, h3])
        go_enter Tryd.func24, Tryd.ntmps24
        go_wp2_with (first | (go_at_call 47; refine (isRack_any _ _).mono ?_; rintro e w' ⟨rfl, rfl⟩) | (go_at_call 48; refine (within_any _ _ _ _).mono ?_; rintro e w' ⟨rfl, rfl⟩))
        go_ret
        exact ⟨ret_bool HV.out.symm, al1 _ _⟩
      · have HV := Lib.hid (show vPass k d c r f n = (if k = 1 then dirB d && inR c 1 4 else inR k 2 3 && d == 0 && c == 0) by simp [vPass, h1, h2, h3])
        rcases (show k = 1 ∨ k = 2 ∨ k = 3 ∨ (k ≠ 1 ∧ ¬ (2 ≤ k ∧ k ≤ 3)) from by omega) with rfl | rfl | rfl | ⟨k1, k2⟩
        · go_enter Tryd.func24, Tryd.ntmps24
          go_wp2_with (first | (go_at_call 47; refine (isRack_any _ _).mono ?_; rintro e w' ⟨rfl, rfl⟩) | (go_at_call 48; refine (within_any _ _ _ _).mono ?_; rintro e w' ⟨rfl, rfl⟩) | (go_at_call 49; refine (isDirection_any _ _).mono ?_; rintro e w' ⟨rfl, rfl⟩) | (go_at_call 50; refine (isCarrier_any _ _).mono ?_; rintro e w' ⟨rfl, rfl⟩))
          all_goals (go_ret; exact ⟨ret_bool (by rw [HV.out]; simp_all), al1 _ _⟩)
        · go_enter Tryd.func24, Tryd.ntmps24
          go_wp2_with (first | (go_at_call 47; refine (isRack_any _ _).mono ?_; rintro e w' ⟨rfl, rfl⟩) | (go_at_call 48; refine (within_any _ _ _ _).mono ?_; rintro e w' ⟨rfl, rfl⟩))
          all_goals (go_ret; exact ⟨ret_bool (by rw [HV.out]; simp_all [inR]), al1 _ _⟩)
        · go_enter Tryd.func24, Tryd.ntmps24
          go_wp2_with (first | (go_at_call 47; refine (isRack_any _ _).mono ?_; rintro e w' ⟨rfl, rfl⟩) | (go_at_call 48; refine (within_any _ _ _ _).mono ?_; rintro e w' ⟨rfl, rfl⟩))
          all_goals (go_ret; exact ⟨ret_bool (by rw [HV.out]; simp_all [inR]), al1 _ _⟩)
        · have k3 := inR_no k2
          go_enter Tryd.func24, Tryd.ntmps24
          go_wp2_with (first | (go_at_call 47; refine (isRack_any _ _).mono ?_; rintro e w' ⟨rfl, rfl⟩) | (go_at_call 48; refine (within_any _ _ _ _).mono ?_; rintro e w' ⟨rfl, rfl⟩))
          all_goals (go_ret; exact ⟨ret_bool (by rw [HV.out, if_neg k1, k3]; rfl), al1 _ _⟩)
/-- The six cells of a pass in memory. -/
structure PassAt (w : World) (b o : Nat) (k d c r f n : Int) : Prop where
  c0 : w.cell? ⟨b, o, none⟩ = some (.int .i64 k)
  c1 : w.cell? ⟨b, o + 1, none⟩ = some (.int .i64 d)
  c2 : w.cell? ⟨b, o + 2, none⟩ = some (.int .i64 c)
  c3 : w.cell? ⟨b, o + 3, none⟩ = some (.int .i64 r)
  c4 : w.cell? ⟨b, o + 4, none⟩ = some (.int .i64 f)
  c5 : w.cell? ⟨b, o + 5, none⟩ = some (.int .i64 n)
set_option maxHeartbeats 4000000 in
theorem l09Ok_any (k d c r f n : Int) (b o : Nat) (w : World) (h : PassAt w b o k d c r f n) :
    Calls Tryd.prog 21 #[.pointer (some ⟨b, o, none⟩)] w fun e w' => e = .returned (.bool (vPass k d c r f n)) ∧ Below w.heap.size w w' := by
  obtain ⟨c0, c1, c2, c3, c4, c5⟩ := h
  have k0 := cell_regrown c0
  have k1 := cell_regrown c1
  have k2 := cell_regrown c2
  have k3 := cell_regrown c3
  have k4 := cell_regrown c4
  have k5 := cell_regrown c5
  clear c0 c1 c2 c3 c4 c5
  cases h1 : inR r (-3) 3
  · have HV := Lib.hid (show vPass k d c r f n = false by simp [vPass, h1])
    go_enter Tryd.func21, Tryd.ntmps21
    go_wp2
    refine wp_region_quiet_below (by kernel_rfl) (by kernel_rfl) ?_
    repeat (go_big_quiet_step (first | (go_at_call 44; exact Calls.regrown_same (is_same (by assumption) (l00In_any _ _ _ _)))))
    refine wpQuiet_nil ?_
    intro _ hw'
    obtain ⟨⟨dq, osq⟩, hw''⟩ := hw'
    subst hw''
    go_wp2
    go_ret
    exact ⟨ret_bool HV.out.symm, below_regrown _ _ _⟩
  · cases h2 : inR f 0 1499
    · have HV := Lib.hid (show vPass k d c r f n = false by simp [vPass, h2])
      go_enter Tryd.func21, Tryd.ntmps21
      go_wp2
      refine wp_region_quiet_below (by kernel_rfl) (by kernel_rfl) ?_
      repeat (go_big_quiet_step (first | (go_at_call 44; exact Calls.regrown_same (is_same (by assumption) (l00In_any _ _ _ _)))))
      refine wpQuiet_nil ?_
      intro _ hw'
      obtain ⟨⟨dq, osq⟩, hw''⟩ := hw'
      subst hw''
      go_wp2
      go_ret
      exact ⟨ret_bool HV.out.symm, below_regrown _ _ _⟩
    · obtain ⟨f0, f1⟩ := inR_iff.1 h2
      cases h3 : inR n 1 (1500 - f)
      · have HV := Lib.hid (show vPass k d c r f n = false by simp [vPass, h3])
        go_enter Tryd.func21, Tryd.ntmps21
        go_wp2
        refine wp_region_quiet_below (by kernel_rfl) (by kernel_rfl) ?_
        repeat (go_big_quiet_step (first | (go_at_call 44; exact Calls.regrown_same (is_same (by assumption) (l00In_any _ _ _ _)))))
        refine wpQuiet_nil ?_
        intro _ hw'
        obtain ⟨⟨dq, osq⟩, hw''⟩ := hw'
        subst hw''
        go_wp2
        go_ret
        exact ⟨ret_bool HV.out.symm, below_regrown _ _ _⟩
      · have HV := Lib.hid (show vPass k d c r f n = (if k = 1 then dirB d && inR c 1 4 else inR k 2 3 && d == 0 && c == 0) by simp [vPass, h1, h2, h3])
        go_enter Tryd.func21, Tryd.ntmps21
        go_wp2
        refine wp_region_quiet_below (by kernel_rfl) (by kernel_rfl) ?_
        repeat (go_big_quiet_step (first | (go_at_call 44; exact Calls.regrown_same (is_same (by assumption) (l00In_any _ _ _ _)))))
        refine wpQuiet_nil ?_
        intro _ hw'
        obtain ⟨⟨dq, osq⟩, hw''⟩ := hw'
        subst hw''
        by_cases k1 : k = 1
        · subst k1
          go_wp2_with (first | (go_at_call 45; refine (l07Dir_any _ _).mono ?_; rintro e w' ⟨rfl, rfl⟩) | (go_at_call 46; refine (l07Yarn_any _ _).mono ?_; rintro e w' ⟨rfl, rfl⟩))
          all_goals (go_ret; exact ⟨ret_bool (by rw [HV.out]; simp_all), below_regrown _ _ _⟩)
        · have k1b : (k == 1) = false := by simp [k1]
          go_wp2_with (go_at_call 44; refine (l00In_any _ _ _ _).mono ?_; rintro e w' ⟨rfl, rfl⟩)
          all_goals (go_ret; exact ⟨ret_bool (by rw [HV.out, if_neg k1]; simp_all), below_regrown _ _ _⟩)
end Go.Proofs.YtpiodiliifnckaaDoor
