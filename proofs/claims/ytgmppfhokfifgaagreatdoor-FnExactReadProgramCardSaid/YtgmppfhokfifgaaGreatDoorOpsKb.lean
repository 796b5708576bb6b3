/-
  Contract of the reference's l07Op, by kinds of operations.
-/
import Derived.Test.YtgmppfhokfifgaaGreatDoorOps
namespace Go.Proofs.YtgmppfhokfifgaaGreatDoor
set_option maxRecDepth 10000
open Go.RowKit Go.Sort
set_option maxRecDepth 100000 in
set_option maxHeartbeats 8000000 in
theorem l07Op_k3 (d fb fa tb ta c r : Int) (b o : Nat) (w : World) (h : OpAt w b o 3 d fb fa tb ta c r) :
    Calls Tryz.prog 71 #[.pointer (some ⟨b, o, none⟩)] w fun e w' => e = .returned (.bool (vOp 3 d fb fa tb ta c r)) ∧ Below w.heap.size w w' := by
  obtain ⟨hlt, k0, k1, k2, k3, k4, k5, k6, k7, n0, n1, c0⟩ := opAt_facts h
  clear h
  go_enter Tryz.func71, Tryz.ntmps71
  go_wp2
  refine wp_region_quiet_below (by kernel_rfl) (by kernel_rfl) ?_
  cases hB5 : dirB d
  · repeat (go_big_quiet_step (first | (go_at_call 99; exact Calls.regrown_same (is_same (by assumption) (l07Dir_any _ _))) | (go_at_call 100; exact Calls.regrown_same (is_same (by assumption) (l07Yarn_any _ _))) | (go_at_call 38; exact Calls.regrown_same (is_same (by assumption) (l00In_any _ _ _ _))) | (go_at_call 97; exact Calls.regrown_of (is_below (by assumption) (l01Needle_any _ _ _)))))
    refine wpQuiet_nil ?_
    intro _ hw'
    obtain ⟨⟨dq, osq⟩, hw''⟩ := hw'
    subst hw''
    go_wp2
    go_ret
    exact ⟨ret_bool (by simp_all [vOp]), (al1 _ _).trans ((below_regrown _ _ _).mono (by simp))⟩
  · cases hB4 : ndlB fb fa
    · repeat (go_big_quiet_step (first | (go_at_call 99; exact Calls.regrown_same (is_same (by assumption) (l07Dir_any _ _))) | (go_at_call 100; exact Calls.regrown_same (is_same (by assumption) (l07Yarn_any _ _))) | (go_at_call 38; exact Calls.regrown_same (is_same (by assumption) (l00In_any _ _ _ _))) | (go_at_call 97; exact Calls.regrown_of (is_below (by assumption) (l01Needle_any _ _ _)))))
      refine wpQuiet_nil ?_
      intro _ hw'
      obtain ⟨⟨dq, osq⟩, hw''⟩ := hw'
      subst hw''
      go_wp2
      go_ret
      exact ⟨ret_bool (by simp_all [vOp]), (al1 _ _).trans ((below_regrown _ _ _).mono (by simp))⟩
    · by_cases hZ3 : tb = 0
      · subst hZ3
        by_cases hZ2 : ta = 0
        · subst hZ2
          cases hB1 : inR c 1 4
          · repeat (go_big_quiet_step (first | (go_at_call 99; exact Calls.regrown_same (is_same (by assumption) (l07Dir_any _ _))) | (go_at_call 100; exact Calls.regrown_same (is_same (by assumption) (l07Yarn_any _ _))) | (go_at_call 38; exact Calls.regrown_same (is_same (by assumption) (l00In_any _ _ _ _))) | (go_at_call 97; exact Calls.regrown_of (is_below (by assumption) (l01Needle_any _ _ _)))))
            refine wpQuiet_nil ?_
            intro _ hw'
            obtain ⟨⟨dq, osq⟩, hw''⟩ := hw'
            subst hw''
            go_wp2
            go_ret
            exact ⟨ret_bool (by simp_all [vOp]), (al1 _ _).trans ((below_regrown _ _ _).mono (by simp))⟩
          · repeat (go_big_quiet_step (first | (go_at_call 99; exact Calls.regrown_same (is_same (by assumption) (l07Dir_any _ _))) | (go_at_call 100; exact Calls.regrown_same (is_same (by assumption) (l07Yarn_any _ _))) | (go_at_call 38; exact Calls.regrown_same (is_same (by assumption) (l00In_any _ _ _ _))) | (go_at_call 97; exact Calls.regrown_of (is_below (by assumption) (l01Needle_any _ _ _)))))
            refine wpQuiet_nil ?_
            intro _ hw'
            obtain ⟨⟨dq, osq⟩, hw''⟩ := hw'
            subst hw''
            go_wp2
            go_ret
            exact ⟨ret_bool (by simp_all [vOp]), (al1 _ _).trans ((below_regrown _ _ _).mono (by simp))⟩
        · have hZb2 : (ta == 0) = false := by simp [hZ2]
          repeat (go_big_quiet_step (first | (go_at_call 99; exact Calls.regrown_same (is_same (by assumption) (l07Dir_any _ _))) | (go_at_call 100; exact Calls.regrown_same (is_same (by assumption) (l07Yarn_any _ _))) | (go_at_call 38; exact Calls.regrown_same (is_same (by assumption) (l00In_any _ _ _ _))) | (go_at_call 97; exact Calls.regrown_of (is_below (by assumption) (l01Needle_any _ _ _)))))
          refine wpQuiet_nil ?_
          intro _ hw'
          obtain ⟨⟨dq, osq⟩, hw''⟩ := hw'
          subst hw''
          go_wp2
          go_ret
          exact ⟨ret_bool (by simp_all [vOp]), (al1 _ _).trans ((below_regrown _ _ _).mono (by simp))⟩
      · have hZb3 : (tb == 0) = false := by simp [hZ3]
        repeat (go_big_quiet_step (first | (go_at_call 99; exact Calls.regrown_same (is_same (by assumption) (l07Dir_any _ _))) | (go_at_call 100; exact Calls.regrown_same (is_same (by assumption) (l07Yarn_any _ _))) | (go_at_call 38; exact Calls.regrown_same (is_same (by assumption) (l00In_any _ _ _ _))) | (go_at_call 97; exact Calls.regrown_of (is_below (by assumption) (l01Needle_any _ _ _)))))
        refine wpQuiet_nil ?_
        intro _ hw'
        obtain ⟨⟨dq, osq⟩, hw''⟩ := hw'
        subst hw''
        go_wp2
        go_ret
        exact ⟨ret_bool (by simp_all [vOp]), (al1 _ _).trans ((below_regrown _ _ _).mono (by simp))⟩
set_option maxRecDepth 100000 in
set_option maxHeartbeats 8000000 in
theorem l07Op_k4 (d fb fa tb ta c r : Int) (b o : Nat) (w : World) (h : OpAt w b o 4 d fb fa tb ta c r) :
    Calls Tryz.prog 71 #[.pointer (some ⟨b, o, none⟩)] w fun e w' => e = .returned (.bool (vOp 4 d fb fa tb ta c r)) ∧ Below w.heap.size w w' := by
  obtain ⟨hlt, k0, k1, k2, k3, k4, k5, k6, k7, n0, n1, c0⟩ := opAt_facts h
  clear h
  go_enter Tryz.func71, Tryz.ntmps71
  go_wp2
  refine wp_region_quiet_below (by kernel_rfl) (by kernel_rfl) ?_
  by_cases hZ5 : d = 0
  · subst hZ5
    cases hB4 : ndlB fb fa
    · repeat (go_big_quiet_step (first | (go_at_call 99; exact Calls.regrown_same (is_same (by assumption) (l07Dir_any _ _))) | (go_at_call 100; exact Calls.regrown_same (is_same (by assumption) (l07Yarn_any _ _))) | (go_at_call 38; exact Calls.regrown_same (is_same (by assumption) (l00In_any _ _ _ _))) | (go_at_call 97; exact Calls.regrown_of (is_below (by assumption) (l01Needle_any _ _ _)))))
      refine wpQuiet_nil ?_
      intro _ hw'
      obtain ⟨⟨dq, osq⟩, hw''⟩ := hw'
      subst hw''
      go_wp2
      go_ret
      exact ⟨ret_bool (by simp_all [vOp, pairB]), (al1 _ _).trans ((below_regrown _ _ _).mono (by simp))⟩
    · cases hB3 : ndlB tb ta
      · repeat (go_big_quiet_step (first | (go_at_call 99; exact Calls.regrown_same (is_same (by assumption) (l07Dir_any _ _))) | (go_at_call 100; exact Calls.regrown_same (is_same (by assumption) (l07Yarn_any _ _))) | (go_at_call 38; exact Calls.regrown_same (is_same (by assumption) (l00In_any _ _ _ _))) | (go_at_call 97; exact Calls.regrown_of (is_below (by assumption) (l01Needle_any _ _ _)))))
        refine wpQuiet_nil ?_
        intro _ hw'
        obtain ⟨⟨dq, osq⟩, hw''⟩ := hw'
        subst hw''
        go_wp2
        go_ret
        exact ⟨ret_bool (by simp_all [vOp, pairB]), (al1 _ _).trans ((below_regrown _ _ _).mono (by simp))⟩
      · by_cases hN2 : fb = tb
        · subst hN2
          repeat (go_big_quiet_step (first | (go_at_call 99; exact Calls.regrown_same (is_same (by assumption) (l07Dir_any _ _))) | (go_at_call 100; exact Calls.regrown_same (is_same (by assumption) (l07Yarn_any _ _))) | (go_at_call 38; exact Calls.regrown_same (is_same (by assumption) (l00In_any _ _ _ _))) | (go_at_call 97; exact Calls.regrown_of (is_below (by assumption) (l01Needle_any _ _ _)))))
          refine wpQuiet_nil ?_
          intro _ hw'
          obtain ⟨⟨dq, osq⟩, hw''⟩ := hw'
          subst hw''
          go_wp2
          go_ret
          exact ⟨ret_bool (by simp_all [vOp, pairB]), (al1 _ _).trans ((below_regrown _ _ _).mono (by simp))⟩
        · have hNb2 : (fb != tb) = true := by simp [hN2]
          by_cases hZ1 : c = 0
          · subst hZ1
            repeat (go_big_quiet_step (first | (go_at_call 99; exact Calls.regrown_same (is_same (by assumption) (l07Dir_any _ _))) | (go_at_call 100; exact Calls.regrown_same (is_same (by assumption) (l07Yarn_any _ _))) | (go_at_call 38; exact Calls.regrown_same (is_same (by assumption) (l00In_any _ _ _ _))) | (go_at_call 97; exact Calls.regrown_of (is_below (by assumption) (l01Needle_any _ _ _)))))
            refine wpQuiet_nil ?_
            intro _ hw'
            obtain ⟨⟨dq, osq⟩, hw''⟩ := hw'
            subst hw''
            go_wp2
            go_ret
            exact ⟨ret_bool (by simp_all [vOp, pairB]), (al1 _ _).trans ((below_regrown _ _ _).mono (by simp))⟩
          · have hZb1 : (c == 0) = false := by simp [hZ1]
            repeat (go_big_quiet_step (first | (go_at_call 99; exact Calls.regrown_same (is_same (by assumption) (l07Dir_any _ _))) | (go_at_call 100; exact Calls.regrown_same (is_same (by assumption) (l07Yarn_any _ _))) | (go_at_call 38; exact Calls.regrown_same (is_same (by assumption) (l00In_any _ _ _ _))) | (go_at_call 97; exact Calls.regrown_of (is_below (by assumption) (l01Needle_any _ _ _)))))
            refine wpQuiet_nil ?_
            intro _ hw'
            obtain ⟨⟨dq, osq⟩, hw''⟩ := hw'
            subst hw''
            go_wp2
            go_ret
            exact ⟨ret_bool (by simp_all [vOp, pairB]), (al1 _ _).trans ((below_regrown _ _ _).mono (by simp))⟩
  · have hZb5 : (d == 0) = false := by simp [hZ5]
    repeat (go_big_quiet_step (first | (go_at_call 99; exact Calls.regrown_same (is_same (by assumption) (l07Dir_any _ _))) | (go_at_call 100; exact Calls.regrown_same (is_same (by assumption) (l07Yarn_any _ _))) | (go_at_call 38; exact Calls.regrown_same (is_same (by assumption) (l00In_any _ _ _ _))) | (go_at_call 97; exact Calls.regrown_of (is_below (by assumption) (l01Needle_any _ _ _)))))
    refine wpQuiet_nil ?_
    intro _ hw'
    obtain ⟨⟨dq, osq⟩, hw''⟩ := hw'
    subst hw''
    go_wp2
    go_ret
    exact ⟨ret_bool (by simp_all [vOp, pairB]), (al1 _ _).trans ((below_regrown _ _ _).mono (by simp))⟩
end Go.Proofs.YtgmppfhokfifgaaGreatDoor
