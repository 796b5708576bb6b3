/-
  Contract of the reference's l07Op, by kinds of operations.
-/
import Derived.Test.YtgmppfhokfifgaaGreatDoorOps
namespace Go.Proofs.YtgmppfhokfifgaaGreatDoor
set_option maxRecDepth 10000
open Go.RowKit Go.Sort
set_option maxRecDepth 100000 in
set_option maxHeartbeats 8000000 in
theorem l07Op_k7 (d fb fa tb ta c r : Int) (b o : Nat) (w : World) (h : OpAt w b o 7 d fb fa tb ta c r) :
    Calls Tryz.prog 71 #[.pointer (some ⟨b, o, none⟩)] w fun e w' => e = .returned (.bool (vOp 7 d fb fa tb ta c r)) ∧ Below w.heap.size w w' := by
  obtain ⟨hlt, k0, k1, k2, k3, k4, k5, k6, k7, n0, n1, c0⟩ := opAt_facts h
  clear h
  go_enter Tryz.func71, Tryz.ntmps71
  go_wp2
  refine wp_region_quiet_below (by kernel_rfl) (by kernel_rfl) ?_
  by_cases hZ7 : d = 0
  · subst hZ7
    by_cases hZ6 : fb = 0
    · subst hZ6
      by_cases hZ5 : fa = 0
      · subst hZ5
        by_cases hZ4 : tb = 0
        · subst hZ4
          by_cases hZ3 : ta = 0
          · subst hZ3
            by_cases hZ2 : c = 0
            · subst hZ2
              cases hB1 : inR r (-3) 3
              · repeat (go_big_quiet_step (first | (go_at_call 99; exact Calls.regrown_same (is_same (by assumption) (l07Dir_any _ _))) | (go_at_call 100; exact Calls.regrown_same (is_same (by assumption) (l07Yarn_any _ _))) | (go_at_call 38; exact Calls.regrown_same (is_same (by assumption) (l00In_any _ _ _ _))) | (go_at_call 97; exact Calls.regrown_of (is_below (by assumption) (l01Needle_any _ _ _)))))
                refine wpQuiet_nil ?_
                intro _ hw'
                obtain ⟨⟨dq, osq⟩, hw''⟩ := hw'
                subst hw''
                go_wp2
                go_ret
                exact ⟨ret_bool (by simp_all [vOp]), (al1 _ _).trans ((below_regrown _ _ _).mono (by simp))⟩
              · repeat (go_big_quiet_step (first | (go_at_call 99; exact Calls.regrown_same (is_same (by assumption) (l07Dir_any _ _))) | (go_at_call 100; exact Calls.regrown_same (is_same (by assumption) (l07Yarn_any _ _))) | (go_at_call 38; exact Calls.regrown_same (is_same (by assumption) (l00In_any _ _ _ _))) | (go_at_call 97; exact Calls.regrown_of (is_below (by assumption) (l01Needle_any _ _ _)))))
                refine wpQuiet_nil ?_
                intro _ hw'
                obtain ⟨⟨dq, osq⟩, hw''⟩ := hw'
                subst hw''
                go_wp2
                go_ret
                exact ⟨ret_bool (by simp_all [vOp]), (al1 _ _).trans ((below_regrown _ _ _).mono (by simp))⟩
            · have hZb2 : (c == 0) = false := by simp [hZ2]
              repeat (go_big_quiet_step (first | (go_at_call 99; exact Calls.regrown_same (is_same (by assumption) (l07Dir_any _ _))) | (go_at_call 100; exact Calls.regrown_same (is_same (by assumption) (l07Yarn_any _ _))) | (go_at_call 38; exact Calls.regrown_same (is_same (by assumption) (l00In_any _ _ _ _))) | (go_at_call 97; exact Calls.regrown_of (is_below (by assumption) (l01Needle_any _ _ _)))))
              refine wpQuiet_nil ?_
              intro _ hw'
              obtain ⟨⟨dq, osq⟩, hw''⟩ := hw'
              subst hw''
              go_wp2
              go_ret
              exact ⟨ret_bool (by simp_all [vOp]), (al1 _ _).trans ((below_regrown _ _ _).mono (by simp))⟩
          · have hZb3 : (ta == 0) = false := by simp [hZ3]
            repeat (go_big_quiet_step (first | (go_at_call 99; exact Calls.regrown_same (is_same (by assumption) (l07Dir_any _ _))) | (go_at_call 100; exact Calls.regrown_same (is_same (by assumption) (l07Yarn_any _ _))) | (go_at_call 38; exact Calls.regrown_same (is_same (by assumption) (l00In_any _ _ _ _))) | (go_at_call 97; exact Calls.regrown_of (is_below (by assumption) (l01Needle_any _ _ _)))))
            refine wpQuiet_nil ?_
            intro _ hw'
            obtain ⟨⟨dq, osq⟩, hw''⟩ := hw'
            subst hw''
            go_wp2
            go_ret
            exact ⟨ret_bool (by simp_all [vOp]), (al1 _ _).trans ((below_regrown _ _ _).mono (by simp))⟩
        · have hZb4 : (tb == 0) = false := by simp [hZ4]
          repeat (go_big_quiet_step (first | (go_at_call 99; exact Calls.regrown_same (is_same (by assumption) (l07Dir_any _ _))) | (go_at_call 100; exact Calls.regrown_same (is_same (by assumption) (l07Yarn_any _ _))) | (go_at_call 38; exact Calls.regrown_same (is_same (by assumption) (l00In_any _ _ _ _))) | (go_at_call 97; exact Calls.regrown_of (is_below (by assumption) (l01Needle_any _ _ _)))))
          refine wpQuiet_nil ?_
          intro _ hw'
          obtain ⟨⟨dq, osq⟩, hw''⟩ := hw'
          subst hw''
          go_wp2
          go_ret
          exact ⟨ret_bool (by simp_all [vOp]), (al1 _ _).trans ((below_regrown _ _ _).mono (by simp))⟩
      · have hZb5 : (fa == 0) = false := by simp [hZ5]
        repeat (go_big_quiet_step (first | (go_at_call 99; exact Calls.regrown_same (is_same (by assumption) (l07Dir_any _ _))) | (go_at_call 100; exact Calls.regrown_same (is_same (by assumption) (l07Yarn_any _ _))) | (go_at_call 38; exact Calls.regrown_same (is_same (by assumption) (l00In_any _ _ _ _))) | (go_at_call 97; exact Calls.regrown_of (is_below (by assumption) (l01Needle_any _ _ _)))))
        refine wpQuiet_nil ?_
        intro _ hw'
        obtain ⟨⟨dq, osq⟩, hw''⟩ := hw'
        subst hw''
        go_wp2
        go_ret
        exact ⟨ret_bool (by simp_all [vOp]), (al1 _ _).trans ((below_regrown _ _ _).mono (by simp))⟩
    · have hZb6 : (fb == 0) = false := by simp [hZ6]
      repeat (go_big_quiet_step (first | (go_at_call 99; exact Calls.regrown_same (is_same (by assumption) (l07Dir_any _ _))) | (go_at_call 100; exact Calls.regrown_same (is_same (by assumption) (l07Yarn_any _ _))) | (go_at_call 38; exact Calls.regrown_same (is_same (by assumption) (l00In_any _ _ _ _))) | (go_at_call 97; exact Calls.regrown_of (is_below (by assumption) (l01Needle_any _ _ _)))))
      refine wpQuiet_nil ?_
      intro _ hw'
      obtain ⟨⟨dq, osq⟩, hw''⟩ := hw'
      subst hw''
      go_wp2
      go_ret
      exact ⟨ret_bool (by simp_all [vOp]), (al1 _ _).trans ((below_regrown _ _ _).mono (by simp))⟩
  · have hZb7 : (d == 0) = false := by simp [hZ7]
    repeat (go_big_quiet_step (first | (go_at_call 99; exact Calls.regrown_same (is_same (by assumption) (l07Dir_any _ _))) | (go_at_call 100; exact Calls.regrown_same (is_same (by assumption) (l07Yarn_any _ _))) | (go_at_call 38; exact Calls.regrown_same (is_same (by assumption) (l00In_any _ _ _ _))) | (go_at_call 97; exact Calls.regrown_of (is_below (by assumption) (l01Needle_any _ _ _)))))
    refine wpQuiet_nil ?_
    intro _ hw'
    obtain ⟨⟨dq, osq⟩, hw''⟩ := hw'
    subst hw''
    go_wp2
    go_ret
    exact ⟨ret_bool (by simp_all [vOp]), (al1 _ _).trans ((below_regrown _ _ _).mono (by simp))⟩
set_option maxRecDepth 100000 in
set_option maxHeartbeats 8000000 in
theorem l07Op_k8 (d fb fa tb ta c r : Int) (b o : Nat) (w : World) (h : OpAt w b o 8 d fb fa tb ta c r) :
    Calls Tryz.prog 71 #[.pointer (some ⟨b, o, none⟩)] w fun e w' => e = .returned (.bool (vOp 8 d fb fa tb ta c r)) ∧ Below w.heap.size w w' := by
  obtain ⟨hlt, k0, k1, k2, k3, k4, k5, k6, k7, n0, n1, c0⟩ := opAt_facts h
  clear h
  go_enter Tryz.func71, Tryz.ntmps71
  go_wp2
  refine wp_region_quiet_below (by kernel_rfl) (by kernel_rfl) ?_
  by_cases hZ7 : fb = 0
  · subst hZ7
    by_cases hZ6 : fa = 0
    · subst hZ6
      by_cases hZ5 : tb = 0
      · subst hZ5
        by_cases hZ4 : ta = 0
        · subst hZ4
          by_cases hZ3 : r = 0
          · subst hZ3
            cases hB2 : dirB d
            · repeat (go_big_quiet_step (first | (go_at_call 99; exact Calls.regrown_same (is_same (by assumption) (l07Dir_any _ _))) | (go_at_call 100; exact Calls.regrown_same (is_same (by assumption) (l07Yarn_any _ _))) | (go_at_call 38; exact Calls.regrown_same (is_same (by assumption) (l00In_any _ _ _ _))) | (go_at_call 97; exact Calls.regrown_of (is_below (by assumption) (l01Needle_any _ _ _)))))
              refine wpQuiet_nil ?_
              intro _ hw'
              obtain ⟨⟨dq, osq⟩, hw''⟩ := hw'
              subst hw''
              go_wp2
              go_ret
              exact ⟨ret_bool (by simp_all [vOp]), (al1 _ _).trans ((below_regrown _ _ _).mono (by simp))⟩
            · cases hB1 : inR c 1 4
              · repeat (go_big_quiet_step (first | (go_at_call 99; exact Calls.regrown_same (is_same (by assumption) (l07Dir_any _ _))) | (go_at_call 100; exact Calls.regrown_same (is_same (by assumption) (l07Yarn_any _ _))) | (go_at_call 38; exact Calls.regrown_same (is_same (by assumption) (l00In_any _ _ _ _))) | (go_at_call 97; exact Calls.regrown_of (is_below (by assumption) (l01Needle_any _ _ _)))))
                refine wpQuiet_nil ?_
                intro _ hw'
                obtain ⟨⟨dq, osq⟩, hw''⟩ := hw'
                subst hw''
                go_wp2
                go_ret
                exact ⟨ret_bool (by simp_all [vOp]), (al1 _ _).trans ((below_regrown _ _ _).mono (by simp))⟩
              · repeat (go_big_quiet_step (first | (go_at_call 99; exact Calls.regrown_same (is_same (by assumption) (l07Dir_any _ _))) | (go_at_call 100; exact Calls.regrown_same (is_same (by assumption) (l07Yarn_any _ _))) | (go_at_call 38; exact Calls.regrown_same (is_same (by assumption) (l00In_any _ _ _ _))) | (go_at_call 97; exact Calls.regrown_of (is_below (by assumption) (l01Needle_any _ _ _)))))
                refine wpQuiet_nil ?_
                intro _ hw'
                obtain ⟨⟨dq, osq⟩, hw''⟩ := hw'
                subst hw''
                go_wp2
                go_ret
                exact ⟨ret_bool (by simp_all [vOp]), (al1 _ _).trans ((below_regrown _ _ _).mono (by simp))⟩
          · have hZb3 : (r == 0) = false := by simp [hZ3]
            repeat (go_big_quiet_step (first | (go_at_call 99; exact Calls.regrown_same (is_same (by assumption) (l07Dir_any _ _))) | (go_at_call 100; exact Calls.regrown_same (is_same (by assumption) (l07Yarn_any _ _))) | (go_at_call 38; exact Calls.regrown_same (is_same (by assumption) (l00In_any _ _ _ _))) | (go_at_call 97; exact Calls.regrown_of (is_below (by assumption) (l01Needle_any _ _ _)))))
            refine wpQuiet_nil ?_
            intro _ hw'
            obtain ⟨⟨dq, osq⟩, hw''⟩ := hw'
            subst hw''
            go_wp2
            go_ret
            exact ⟨ret_bool (by simp_all [vOp]), (al1 _ _).trans ((below_regrown _ _ _).mono (by simp))⟩
        · have hZb4 : (ta == 0) = false := by simp [hZ4]
          repeat (go_big_quiet_step (first | (go_at_call 99; exact Calls.regrown_same (is_same (by assumption) (l07Dir_any _ _))) | (go_at_call 100; exact Calls.regrown_same (is_same (by assumption) (l07Yarn_any _ _))) | (go_at_call 38; exact Calls.regrown_same (is_same (by assumption) (l00In_any _ _ _ _))) | (go_at_call 97; exact Calls.regrown_of (is_below (by assumption) (l01Needle_any _ _ _)))))
          refine wpQuiet_nil ?_
          intro _ hw'
          obtain ⟨⟨dq, osq⟩, hw''⟩ := hw'
          subst hw''
          go_wp2
          go_ret
          exact ⟨ret_bool (by simp_all [vOp]), (al1 _ _).trans ((below_regrown _ _ _).mono (by simp))⟩
      · have hZb5 : (tb == 0) = false := by simp [hZ5]
        repeat (go_big_quiet_step (first | (go_at_call 99; exact Calls.regrown_same (is_same (by assumption) (l07Dir_any _ _))) | (go_at_call 100; exact Calls.regrown_same (is_same (by assumption) (l07Yarn_any _ _))) | (go_at_call 38; exact Calls.regrown_same (is_same (by assumption) (l00In_any _ _ _ _))) | (go_at_call 97; exact Calls.regrown_of (is_below (by assumption) (l01Needle_any _ _ _)))))
        refine wpQuiet_nil ?_
        intro _ hw'
        obtain ⟨⟨dq, osq⟩, hw''⟩ := hw'
        subst hw''
        go_wp2
        go_ret
        exact ⟨ret_bool (by simp_all [vOp]), (al1 _ _).trans ((below_regrown _ _ _).mono (by simp))⟩
    · have hZb6 : (fa == 0) = false := by simp [hZ6]
      repeat (go_big_quiet_step (first | (go_at_call 99; exact Calls.regrown_same (is_same (by assumption) (l07Dir_any _ _))) | (go_at_call 100; exact Calls.regrown_same (is_same (by assumption) (l07Yarn_any _ _))) | (go_at_call 38; exact Calls.regrown_same (is_same (by assumption) (l00In_any _ _ _ _))) | (go_at_call 97; exact Calls.regrown_of (is_below (by assumption) (l01Needle_any _ _ _)))))
      refine wpQuiet_nil ?_
      intro _ hw'
      obtain ⟨⟨dq, osq⟩, hw''⟩ := hw'
      subst hw''
      go_wp2
      go_ret
      exact ⟨ret_bool (by simp_all [vOp]), (al1 _ _).trans ((below_regrown _ _ _).mono (by simp))⟩
  · have hZb7 : (fb == 0) = false := by simp [hZ7]
    repeat (go_big_quiet_step (first | (go_at_call 99; exact Calls.regrown_same (is_same (by assumption) (l07Dir_any _ _))) | (go_at_call 100; exact Calls.regrown_same (is_same (by assumption) (l07Yarn_any _ _))) | (go_at_call 38; exact Calls.regrown_same (is_same (by assumption) (l00In_any _ _ _ _))) | (go_at_call 97; exact Calls.regrown_of (is_below (by assumption) (l01Needle_any _ _ _)))))
    refine wpQuiet_nil ?_
    intro _ hw'
    obtain ⟨⟨dq, osq⟩, hw''⟩ := hw'
    subst hw''
    go_wp2
    go_ret
    exact ⟨ret_bool (by simp_all [vOp]), (al1 _ _).trans ((below_regrown _ _ _).mono (by simp))⟩
set_option maxRecDepth 100000 in
set_option maxHeartbeats 8000000 in
theorem l07Op_k9 (d fb fa tb ta c r : Int) (b o : Nat) (w : World) (h : OpAt w b o 9 d fb fa tb ta c r) :
    Calls Tryz.prog 71 #[.pointer (some ⟨b, o, none⟩)] w fun e w' => e = .returned (.bool (vOp 9 d fb fa tb ta c r)) ∧ Below w.heap.size w w' := by
  obtain ⟨hlt, k0, k1, k2, k3, k4, k5, k6, k7, n0, n1, c0⟩ := opAt_facts h
  clear h
  go_enter Tryz.func71, Tryz.ntmps71
  go_wp2
  refine wp_region_quiet_below (by kernel_rfl) (by kernel_rfl) ?_
  by_cases hZ7 : d = 0
  · subst hZ7
    by_cases hZ6 : fb = 0
    · subst hZ6
      by_cases hZ5 : fa = 0
      · subst hZ5
        by_cases hZ4 : tb = 0
        · subst hZ4
          by_cases hZ3 : ta = 0
          · subst hZ3
            by_cases hZ2 : r = 0
            · subst hZ2
              cases hB1 : inR c 1 4
              · repeat (go_big_quiet_step (first | (go_at_call 99; exact Calls.regrown_same (is_same (by assumption) (l07Dir_any _ _))) | (go_at_call 100; exact Calls.regrown_same (is_same (by assumption) (l07Yarn_any _ _))) | (go_at_call 38; exact Calls.regrown_same (is_same (by assumption) (l00In_any _ _ _ _))) | (go_at_call 97; exact Calls.regrown_of (is_below (by assumption) (l01Needle_any _ _ _)))))
                refine wpQuiet_nil ?_
                intro _ hw'
                obtain ⟨⟨dq, osq⟩, hw''⟩ := hw'
                subst hw''
                go_wp2
                go_ret
                exact ⟨ret_bool (by simp_all [vOp]), (al1 _ _).trans ((below_regrown _ _ _).mono (by simp))⟩
              · repeat (go_big_quiet_step (first | (go_at_call 99; exact Calls.regrown_same (is_same (by assumption) (l07Dir_any _ _))) | (go_at_call 100; exact Calls.regrown_same (is_same (by assumption) (l07Yarn_any _ _))) | (go_at_call 38; exact Calls.regrown_same (is_same (by assumption) (l00In_any _ _ _ _))) | (go_at_call 97; exact Calls.regrown_of (is_below (by assumption) (l01Needle_any _ _ _)))))
                refine wpQuiet_nil ?_
                intro _ hw'
                obtain ⟨⟨dq, osq⟩, hw''⟩ := hw'
                subst hw''
                go_wp2
                go_ret
                exact ⟨ret_bool (by simp_all [vOp]), (al1 _ _).trans ((below_regrown _ _ _).mono (by simp))⟩
            · have hZb2 : (r == 0) = false := by simp [hZ2]
              repeat (go_big_quiet_step (first | (go_at_call 99; exact Calls.regrown_same (is_same (by assumption) (l07Dir_any _ _))) | (go_at_call 100; exact Calls.regrown_same (is_same (by assumption) (l07Yarn_any _ _))) | (go_at_call 38; exact Calls.regrown_same (is_same (by assumption) (l00In_any _ _ _ _))) | (go_at_call 97; exact Calls.regrown_of (is_below (by assumption) (l01Needle_any _ _ _)))))
              refine wpQuiet_nil ?_
              intro _ hw'
              obtain ⟨⟨dq, osq⟩, hw''⟩ := hw'
              subst hw''
              go_wp2
              go_ret
              exact ⟨ret_bool (by simp_all [vOp]), (al1 _ _).trans ((below_regrown _ _ _).mono (by simp))⟩
          · have hZb3 : (ta == 0) = false := by simp [hZ3]
            repeat (go_big_quiet_step (first | (go_at_call 99; exact Calls.regrown_same (is_same (by assumption) (l07Dir_any _ _))) | (go_at_call 100; exact Calls.regrown_same (is_same (by assumption) (l07Yarn_any _ _))) | (go_at_call 38; exact Calls.regrown_same (is_same (by assumption) (l00In_any _ _ _ _))) | (go_at_call 97; exact Calls.regrown_of (is_below (by assumption) (l01Needle_any _ _ _)))))
            refine wpQuiet_nil ?_
            intro _ hw'
            obtain ⟨⟨dq, osq⟩, hw''⟩ := hw'
            subst hw''
            go_wp2
            go_ret
            exact ⟨ret_bool (by simp_all [vOp]), (al1 _ _).trans ((below_regrown _ _ _).mono (by simp))⟩
        · have hZb4 : (tb == 0) = false := by simp [hZ4]
          repeat (go_big_quiet_step (first | (go_at_call 99; exact Calls.regrown_same (is_same (by assumption) (l07Dir_any _ _))) | (go_at_call 100; exact Calls.regrown_same (is_same (by assumption) (l07Yarn_any _ _))) | (go_at_call 38; exact Calls.regrown_same (is_same (by assumption) (l00In_any _ _ _ _))) | (go_at_call 97; exact Calls.regrown_of (is_below (by assumption) (l01Needle_any _ _ _)))))
          refine wpQuiet_nil ?_
          intro _ hw'
          obtain ⟨⟨dq, osq⟩, hw''⟩ := hw'
          subst hw''
          go_wp2
          go_ret
          exact ⟨ret_bool (by simp_all [vOp]), (al1 _ _).trans ((below_regrown _ _ _).mono (by simp))⟩
      · have hZb5 : (fa == 0) = false := by simp [hZ5]
        repeat (go_big_quiet_step (first | (go_at_call 99; exact Calls.regrown_same (is_same (by assumption) (l07Dir_any _ _))) | (go_at_call 100; exact Calls.regrown_same (is_same (by assumption) (l07Yarn_any _ _))) | (go_at_call 38; exact Calls.regrown_same (is_same (by assumption) (l00In_any _ _ _ _))) | (go_at_call 97; exact Calls.regrown_of (is_below (by assumption) (l01Needle_any _ _ _)))))
        refine wpQuiet_nil ?_
        intro _ hw'
        obtain ⟨⟨dq, osq⟩, hw''⟩ := hw'
        subst hw''
        go_wp2
        go_ret
        exact ⟨ret_bool (by simp_all [vOp]), (al1 _ _).trans ((below_regrown _ _ _).mono (by simp))⟩
    · have hZb6 : (fb == 0) = false := by simp [hZ6]
      repeat (go_big_quiet_step (first | (go_at_call 99; exact Calls.regrown_same (is_same (by assumption) (l07Dir_any _ _))) | (go_at_call 100; exact Calls.regrown_same (is_same (by assumption) (l07Yarn_any _ _))) | (go_at_call 38; exact Calls.regrown_same (is_same (by assumption) (l00In_any _ _ _ _))) | (go_at_call 97; exact Calls.regrown_of (is_below (by assumption) (l01Needle_any _ _ _)))))
      refine wpQuiet_nil ?_
      intro _ hw'
      obtain ⟨⟨dq, osq⟩, hw''⟩ := hw'
      subst hw''
      go_wp2
      go_ret
      exact ⟨ret_bool (by simp_all [vOp]), (al1 _ _).trans ((below_regrown _ _ _).mono (by simp))⟩
  · have hZb7 : (d == 0) = false := by simp [hZ7]
    repeat (go_big_quiet_step (first | (go_at_call 99; exact Calls.regrown_same (is_same (by assumption) (l07Dir_any _ _))) | (go_at_call 100; exact Calls.regrown_same (is_same (by assumption) (l07Yarn_any _ _))) | (go_at_call 38; exact Calls.regrown_same (is_same (by assumption) (l00In_any _ _ _ _))) | (go_at_call 97; exact Calls.regrown_of (is_below (by assumption) (l01Needle_any _ _ _)))))
    refine wpQuiet_nil ?_
    intro _ hw'
    obtain ⟨⟨dq, osq⟩, hw''⟩ := hw'
    subst hw''
    go_wp2
    go_ret
    exact ⟨ret_bool (by simp_all [vOp]), (al1 _ _).trans ((below_regrown _ _ _).mono (by simp))⟩
end Go.Proofs.YtgmppfhokfifgaaGreatDoor
