/-
  Contract of the reference's l07Op, by kinds of operations.
-/
import Derived.Test.YtgmppfhokfifgaaOps
namespace Go.Proofs.Ytgmppfhokfifgaa
set_option maxRecDepth 10000
open Go.RowKit Go.Sort
set_option maxRecDepth 100000 in
set_option maxHeartbeats 8000000 in
theorem l07Op_k1 (d fb fa tb ta c r : Int) (b o : Nat) (w : World) (h : OpAt w b o 1 d fb fa tb ta c r) :
    Calls Try.prog 35 #[.pointer (some ⟨b, o, none⟩)] w fun e w' => e = .returned (.bool (vOp 1 d fb fa tb ta c r)) ∧ Below w.heap.size w w' := by
  obtain ⟨hlt, k0, k1, k2, k3, k4, k5, k6, k7, n0, n1, c0⟩ := opAt_facts h
  clear h
  go_enter Try.func35, Try.ntmps35
  go_wp2
  refine wp_region_quiet_below (by kernel_rfl) (by kernel_rfl) ?_
  cases hB5 : dirB d
  · repeat (go_big_quiet_step (first | (go_at_call 66; exact Calls.regrown_same (is_same (by assumption) (l07Dir_any _ _))) | (go_at_call 68; exact Calls.regrown_same (is_same (by assumption) (l07Yarn_any _ _))) | (go_at_call 37; exact Calls.regrown_same (is_same (by assumption) (l00In_any _ _ _ _))) | (go_at_call 67; exact Calls.regrown_of (is_below (by assumption) (l01Needle_any _ _ _)))))
    refine wpQuiet_nil ?_
    intro _ hw'
    obtain ⟨⟨dq, osq⟩, hw''⟩ := hw'
    subst hw''
    go_wp2
    go_ret
    exact ⟨ret_bool (by simp_all [vOp]), (al1 _ _).trans ((below_regrown _ _ _).mono (by simp))⟩
  · cases hB4 : ndlB fb fa
    · repeat (go_big_quiet_step (first | (go_at_call 66; exact Calls.regrown_same (is_same (by assumption) (l07Dir_any _ _))) | (go_at_call 68; exact Calls.regrown_same (is_same (by assumption) (l07Yarn_any _ _))) | (go_at_call 37; exact Calls.regrown_same (is_same (by assumption) (l00In_any _ _ _ _))) | (go_at_call 67; exact Calls.regrown_of (is_below (by assumption) (l01Needle_any _ _ _)))))
      refine wpQuiet_nil ?_
      intro _ hw'
      obtain ⟨⟨dq, osq⟩, hw''⟩ := hw'
      subst hw''
      go_wp2
      go_ret
      exact ⟨ret_bool (by simp_all [vOp]), (al1 _ _).trans ((below_regrown _ _ _).mono (by simp))⟩
    · by_cases hZ3 : tb = 0
      · subst hZ3
        by_cases hZ2 : ta = 0
        · subst hZ2
          cases hB1 : inR c 1 4
          · repeat (go_big_quiet_step (first | (go_at_call 66; exact Calls.regrown_same (is_same (by assumption) (l07Dir_any _ _))) | (go_at_call 68; exact Calls.regrown_same (is_same (by assumption) (l07Yarn_any _ _))) | (go_at_call 37; exact Calls.regrown_same (is_same (by assumption) (l00In_any _ _ _ _))) | (go_at_call 67; exact Calls.regrown_of (is_below (by assumption) (l01Needle_any _ _ _)))))
            refine wpQuiet_nil ?_
            intro _ hw'
            obtain ⟨⟨dq, osq⟩, hw''⟩ := hw'
            subst hw''
            go_wp2
            go_ret
            exact ⟨ret_bool (by simp_all [vOp]), (al1 _ _).trans ((below_regrown _ _ _).mono (by simp))⟩
          · repeat (go_big_quiet_step (first | (go_at_call 66; exact Calls.regrown_same (is_same (by assumption) (l07Dir_any _ _))) | (go_at_call 68; exact Calls.regrown_same (is_same (by assumption) (l07Yarn_any _ _))) | (go_at_call 37; exact Calls.regrown_same (is_same (by assumption) (l00In_any _ _ _ _))) | (go_at_call 67; exact Calls.regrown_of (is_below (by assumption) (l01Needle_any _ _ _)))))
            refine wpQuiet_nil ?_
            intro _ hw'
            obtain ⟨⟨dq, osq⟩, hw''⟩ := hw'
            subst hw''
            go_wp2
            go_ret
            exact ⟨ret_bool (by simp_all [vOp]), (al1 _ _).trans ((below_regrown _ _ _).mono (by simp))⟩
        · have hZb2 : (ta == 0) = false := by simp [hZ2]
          repeat (go_big_quiet_step (first | (go_at_call 66; exact Calls.regrown_same (is_same (by assumption) (l07Dir_any _ _))) | (go_at_call 68; exact Calls.regrown_same (is_same (by assumption) (l07Yarn_any _ _))) | (go_at_call 37; exact Calls.regrown_same (is_same (by assumption) (l00In_any _ _ _ _))) | (go_at_call 67; exact Calls.regrown_of (is_below (by assumption) (l01Needle_any _ _ _)))))
          refine wpQuiet_nil ?_
          intro _ hw'
          obtain ⟨⟨dq, osq⟩, hw''⟩ := hw'
          subst hw''
          go_wp2
          go_ret
          exact ⟨ret_bool (by simp_all [vOp]), (al1 _ _).trans ((below_regrown _ _ _).mono (by simp))⟩
      · have hZb3 : (tb == 0) = false := by simp [hZ3]
        repeat (go_big_quiet_step (first | (go_at_call 66; exact Calls.regrown_same (is_same (by assumption) (l07Dir_any _ _))) | (go_at_call 68; exact Calls.regrown_same (is_same (by assumption) (l07Yarn_any _ _))) | (go_at_call 37; exact Calls.regrown_same (is_same (by assumption) (l00In_any _ _ _ _))) | (go_at_call 67; exact Calls.regrown_of (is_below (by assumption) (l01Needle_any _ _ _)))))
        refine wpQuiet_nil ?_
        intro _ hw'
        obtain ⟨⟨dq, osq⟩, hw''⟩ := hw'
        subst hw''
        go_wp2
        go_ret
        exact ⟨ret_bool (by simp_all [vOp]), (al1 _ _).trans ((below_regrown _ _ _).mono (by simp))⟩
set_option maxRecDepth 100000 in
set_option maxHeartbeats 8000000 in
theorem l07Op_k2 (d fb fa tb ta c r : Int) (b o : Nat) (w : World) (h : OpAt w b o 2 d fb fa tb ta c r) :
    Calls Try.prog 35 #[.pointer (some ⟨b, o, none⟩)] w fun e w' => e = .returned (.bool (vOp 2 d fb fa tb ta c r)) ∧ Below w.heap.size w w' := by
  obtain ⟨hlt, k0, k1, k2, k3, k4, k5, k6, k7, n0, n1, c0⟩ := opAt_facts h
  clear h
  go_enter Try.func35, Try.ntmps35
  go_wp2
  refine wp_region_quiet_below (by kernel_rfl) (by kernel_rfl) ?_
  cases hB5 : dirB d
  · repeat (go_big_quiet_step (first | (go_at_call 66; exact Calls.regrown_same (is_same (by assumption) (l07Dir_any _ _))) | (go_at_call 68; exact Calls.regrown_same (is_same (by assumption) (l07Yarn_any _ _))) | (go_at_call 37; exact Calls.regrown_same (is_same (by assumption) (l00In_any _ _ _ _))) | (go_at_call 67; exact Calls.regrown_of (is_below (by assumption) (l01Needle_any _ _ _)))))
    refine wpQuiet_nil ?_
    intro _ hw'
    obtain ⟨⟨dq, osq⟩, hw''⟩ := hw'
    subst hw''
    go_wp2
    go_ret
    exact ⟨ret_bool (by simp_all [vOp]), (al1 _ _).trans ((below_regrown _ _ _).mono (by simp))⟩
  · cases hB4 : ndlB fb fa
    · repeat (go_big_quiet_step (first | (go_at_call 66; exact Calls.regrown_same (is_same (by assumption) (l07Dir_any _ _))) | (go_at_call 68; exact Calls.regrown_same (is_same (by assumption) (l07Yarn_any _ _))) | (go_at_call 37; exact Calls.regrown_same (is_same (by assumption) (l00In_any _ _ _ _))) | (go_at_call 67; exact Calls.regrown_of (is_below (by assumption) (l01Needle_any _ _ _)))))
      refine wpQuiet_nil ?_
      intro _ hw'
      obtain ⟨⟨dq, osq⟩, hw''⟩ := hw'
      subst hw''
      go_wp2
      go_ret
      exact ⟨ret_bool (by simp_all [vOp]), (al1 _ _).trans ((below_regrown _ _ _).mono (by simp))⟩
    · by_cases hZ3 : tb = 0
      · subst hZ3
        by_cases hZ2 : ta = 0
        · subst hZ2
          cases hB1 : inR c 1 4
          · repeat (go_big_quiet_step (first | (go_at_call 66; exact Calls.regrown_same (is_same (by assumption) (l07Dir_any _ _))) | (go_at_call 68; exact Calls.regrown_same (is_same (by assumption) (l07Yarn_any _ _))) | (go_at_call 37; exact Calls.regrown_same (is_same (by assumption) (l00In_any _ _ _ _))) | (go_at_call 67; exact Calls.regrown_of (is_below (by assumption) (l01Needle_any _ _ _)))))
            refine wpQuiet_nil ?_
            intro _ hw'
            obtain ⟨⟨dq, osq⟩, hw''⟩ := hw'
            subst hw''
            go_wp2
            go_ret
            exact ⟨ret_bool (by simp_all [vOp]), (al1 _ _).trans ((below_regrown _ _ _).mono (by simp))⟩
          · repeat (go_big_quiet_step (first | (go_at_call 66; exact Calls.regrown_same (is_same (by assumption) (l07Dir_any _ _))) | (go_at_call 68; exact Calls.regrown_same (is_same (by assumption) (l07Yarn_any _ _))) | (go_at_call 37; exact Calls.regrown_same (is_same (by assumption) (l00In_any _ _ _ _))) | (go_at_call 67; exact Calls.regrown_of (is_below (by assumption) (l01Needle_any _ _ _)))))
            refine wpQuiet_nil ?_
            intro _ hw'
            obtain ⟨⟨dq, osq⟩, hw''⟩ := hw'
            subst hw''
            go_wp2
            go_ret
            exact ⟨ret_bool (by simp_all [vOp]), (al1 _ _).trans ((below_regrown _ _ _).mono (by simp))⟩
        · have hZb2 : (ta == 0) = false := by simp [hZ2]
          repeat (go_big_quiet_step (first | (go_at_call 66; exact Calls.regrown_same (is_same (by assumption) (l07Dir_any _ _))) | (go_at_call 68; exact Calls.regrown_same (is_same (by assumption) (l07Yarn_any _ _))) | (go_at_call 37; exact Calls.regrown_same (is_same (by assumption) (l00In_any _ _ _ _))) | (go_at_call 67; exact Calls.regrown_of (is_below (by assumption) (l01Needle_any _ _ _)))))
          refine wpQuiet_nil ?_
          intro _ hw'
          obtain ⟨⟨dq, osq⟩, hw''⟩ := hw'
          subst hw''
          go_wp2
          go_ret
          exact ⟨ret_bool (by simp_all [vOp]), (al1 _ _).trans ((below_regrown _ _ _).mono (by simp))⟩
      · have hZb3 : (tb == 0) = false := by simp [hZ3]
        repeat (go_big_quiet_step (first | (go_at_call 66; exact Calls.regrown_same (is_same (by assumption) (l07Dir_any _ _))) | (go_at_call 68; exact Calls.regrown_same (is_same (by assumption) (l07Yarn_any _ _))) | (go_at_call 37; exact Calls.regrown_same (is_same (by assumption) (l00In_any _ _ _ _))) | (go_at_call 67; exact Calls.regrown_of (is_below (by assumption) (l01Needle_any _ _ _)))))
        refine wpQuiet_nil ?_
        intro _ hw'
        obtain ⟨⟨dq, osq⟩, hw''⟩ := hw'
        subst hw''
        go_wp2
        go_ret
        exact ⟨ret_bool (by simp_all [vOp]), (al1 _ _).trans ((below_regrown _ _ _).mono (by simp))⟩

end Go.Proofs.Ytgmppfhokfifgaa
/-
  Contract of the reference's l07Op, by kinds of operations.
-/
namespace Go.Proofs.Ytgmppfhokfifgaa
set_option maxRecDepth 10000
open Go.RowKit Go.Sort
set_option maxRecDepth 100000 in
set_option maxHeartbeats 8000000 in
theorem l07Op_k3 (d fb fa tb ta c r : Int) (b o : Nat) (w : World) (h : OpAt w b o 3 d fb fa tb ta c r) :
    Calls Try.prog 35 #[.pointer (some ⟨b, o, none⟩)] w fun e w' => e = .returned (.bool (vOp 3 d fb fa tb ta c r)) ∧ Below w.heap.size w w' := by
  obtain ⟨hlt, k0, k1, k2, k3, k4, k5, k6, k7, n0, n1, c0⟩ := opAt_facts h
  clear h
  go_enter Try.func35, Try.ntmps35
  go_wp2
  refine wp_region_quiet_below (by kernel_rfl) (by kernel_rfl) ?_
  cases hB5 : dirB d
  · repeat (go_big_quiet_step (first | (go_at_call 66; exact Calls.regrown_same (is_same (by assumption) (l07Dir_any _ _))) | (go_at_call 68; exact Calls.regrown_same (is_same (by assumption) (l07Yarn_any _ _))) | (go_at_call 37; exact Calls.regrown_same (is_same (by assumption) (l00In_any _ _ _ _))) | (go_at_call 67; exact Calls.regrown_of (is_below (by assumption) (l01Needle_any _ _ _)))))
    refine wpQuiet_nil ?_
    intro _ hw'
    obtain ⟨⟨dq, osq⟩, hw''⟩ := hw'
    subst hw''
    go_wp2
    go_ret
    exact ⟨ret_bool (by simp_all [vOp]), (al1 _ _).trans ((below_regrown _ _ _).mono (by simp))⟩
  · cases hB4 : ndlB fb fa
    · repeat (go_big_quiet_step (first | (go_at_call 66; exact Calls.regrown_same (is_same (by assumption) (l07Dir_any _ _))) | (go_at_call 68; exact Calls.regrown_same (is_same (by assumption) (l07Yarn_any _ _))) | (go_at_call 37; exact Calls.regrown_same (is_same (by assumption) (l00In_any _ _ _ _))) | (go_at_call 67; exact Calls.regrown_of (is_below (by assumption) (l01Needle_any _ _ _)))))
      refine wpQuiet_nil ?_
      intro _ hw'
      obtain ⟨⟨dq, osq⟩, hw''⟩ := hw'
      subst hw''
      go_wp2
      go_ret
      exact ⟨ret_bool (by simp_all [vOp]), (al1 _ _).trans ((below_regrown _ _ _).mono (by simp))⟩
    · by_cases hZ3 : tb = 0
      · subst hZ3
        by_cases hZ2 : ta = 0
        · subst hZ2
          cases hB1 : inR c 1 4
          · repeat (go_big_quiet_step (first | (go_at_call 66; exact Calls.regrown_same (is_same (by assumption) (l07Dir_any _ _))) | (go_at_call 68; exact Calls.regrown_same (is_same (by assumption) (l07Yarn_any _ _))) | (go_at_call 37; exact Calls.regrown_same (is_same (by assumption) (l00In_any _ _ _ _))) | (go_at_call 67; exact Calls.regrown_of (is_below (by assumption) (l01Needle_any _ _ _)))))
            refine wpQuiet_nil ?_
            intro _ hw'
            obtain ⟨⟨dq, osq⟩, hw''⟩ := hw'
            subst hw''
            go_wp2
            go_ret
            exact ⟨ret_bool (by simp_all [vOp]), (al1 _ _).trans ((below_regrown _ _ _).mono (by simp))⟩
          · repeat (go_big_quiet_step (first | (go_at_call 66; exact Calls.regrown_same (is_same (by assumption) (l07Dir_any _ _))) | (go_at_call 68; exact Calls.regrown_same (is_same (by assumption) (l07Yarn_any _ _))) | (go_at_call 37; exact Calls.regrown_same (is_same (by assumption) (l00In_any _ _ _ _))) | (go_at_call 67; exact Calls.regrown_of (is_below (by assumption) (l01Needle_any _ _ _)))))
            refine wpQuiet_nil ?_
            intro _ hw'
            obtain ⟨⟨dq, osq⟩, hw''⟩ := hw'
            subst hw''
            go_wp2
            go_ret
            exact ⟨ret_bool (by simp_all [vOp]), (al1 _ _).trans ((below_regrown _ _ _).mono (by simp))⟩
        · have hZb2 : (ta == 0) = false := by simp [hZ2]
          repeat (go_big_quiet_step (first | (go_at_call 66; exact Calls.regrown_same (is_same (by assumption) (l07Dir_any _ _))) | (go_at_call 68; exact Calls.regrown_same (is_same (by assumption) (l07Yarn_any _ _))) | (go_at_call 37; exact Calls.regrown_same (is_same (by assumption) (l00In_any _ _ _ _))) | (go_at_call 67; exact Calls.regrown_of (is_below (by assumption) (l01Needle_any _ _ _)))))
          refine wpQuiet_nil ?_
          intro _ hw'
          obtain ⟨⟨dq, osq⟩, hw''⟩ := hw'
          subst hw''
          go_wp2
          go_ret
          exact ⟨ret_bool (by simp_all [vOp]), (al1 _ _).trans ((below_regrown _ _ _).mono (by simp))⟩
      · have hZb3 : (tb == 0) = false := by simp [hZ3]
        repeat (go_big_quiet_step (first | (go_at_call 66; exact Calls.regrown_same (is_same (by assumption) (l07Dir_any _ _))) | (go_at_call 68; exact Calls.regrown_same (is_same (by assumption) (l07Yarn_any _ _))) | (go_at_call 37; exact Calls.regrown_same (is_same (by assumption) (l00In_any _ _ _ _))) | (go_at_call 67; exact Calls.regrown_of (is_below (by assumption) (l01Needle_any _ _ _)))))
        refine wpQuiet_nil ?_
        intro _ hw'
        obtain ⟨⟨dq, osq⟩, hw''⟩ := hw'
        subst hw''
        go_wp2
        go_ret
        exact ⟨ret_bool (by simp_all [vOp]), (al1 _ _).trans ((below_regrown _ _ _).mono (by simp))⟩
set_option maxRecDepth 100000 in
set_option maxHeartbeats 8000000 in
theorem l07Op_k4 (d fb fa tb ta c r : Int) (b o : Nat) (w : World) (h : OpAt w b o 4 d fb fa tb ta c r) :
    Calls Try.prog 35 #[.pointer (some ⟨b, o, none⟩)] w fun e w' => e = .returned (.bool (vOp 4 d fb fa tb ta c r)) ∧ Below w.heap.size w w' := by
  obtain ⟨hlt, k0, k1, k2, k3, k4, k5, k6, k7, n0, n1, c0⟩ := opAt_facts h
  clear h
  go_enter Try.func35, Try.ntmps35
  go_wp2
  refine wp_region_quiet_below (by kernel_rfl) (by kernel_rfl) ?_
  by_cases hZ5 : d = 0
  · subst hZ5
    cases hB4 : ndlB fb fa
    · repeat (go_big_quiet_step (first | (go_at_call 66; exact Calls.regrown_same (is_same (by assumption) (l07Dir_any _ _))) | (go_at_call 68; exact Calls.regrown_same (is_same (by assumption) (l07Yarn_any _ _))) | (go_at_call 37; exact Calls.regrown_same (is_same (by assumption) (l00In_any _ _ _ _))) | (go_at_call 67; exact Calls.regrown_of (is_below (by assumption) (l01Needle_any _ _ _)))))
      refine wpQuiet_nil ?_
      intro _ hw'
      obtain ⟨⟨dq, osq⟩, hw''⟩ := hw'
      subst hw''
      go_wp2
      go_ret
      exact ⟨ret_bool (by simp_all [vOp, pairB]), (al1 _ _).trans ((below_regrown _ _ _).mono (by simp))⟩
    · cases hB3 : ndlB tb ta
      · repeat (go_big_quiet_step (first | (go_at_call 66; exact Calls.regrown_same (is_same (by assumption) (l07Dir_any _ _))) | (go_at_call 68; exact Calls.regrown_same (is_same (by assumption) (l07Yarn_any _ _))) | (go_at_call 37; exact Calls.regrown_same (is_same (by assumption) (l00In_any _ _ _ _))) | (go_at_call 67; exact Calls.regrown_of (is_below (by assumption) (l01Needle_any _ _ _)))))
        refine wpQuiet_nil ?_
        intro _ hw'
        obtain ⟨⟨dq, osq⟩, hw''⟩ := hw'
        subst hw''
        go_wp2
        go_ret
        exact ⟨ret_bool (by simp_all [vOp, pairB]), (al1 _ _).trans ((below_regrown _ _ _).mono (by simp))⟩
      · by_cases hN2 : fb = tb
        · subst hN2
          repeat (go_big_quiet_step (first | (go_at_call 66; exact Calls.regrown_same (is_same (by assumption) (l07Dir_any _ _))) | (go_at_call 68; exact Calls.regrown_same (is_same (by assumption) (l07Yarn_any _ _))) | (go_at_call 37; exact Calls.regrown_same (is_same (by assumption) (l00In_any _ _ _ _))) | (go_at_call 67; exact Calls.regrown_of (is_below (by assumption) (l01Needle_any _ _ _)))))
          refine wpQuiet_nil ?_
          intro _ hw'
          obtain ⟨⟨dq, osq⟩, hw''⟩ := hw'
          subst hw''
          go_wp2
          go_ret
          exact ⟨ret_bool (by simp_all [vOp, pairB]), (al1 _ _).trans ((below_regrown _ _ _).mono (by simp))⟩
        · have hNb2 : (fb != tb) = true := by simp [hN2]
          by_cases hZ1 : c = 0
          · subst hZ1
            repeat (go_big_quiet_step (first | (go_at_call 66; exact Calls.regrown_same (is_same (by assumption) (l07Dir_any _ _))) | (go_at_call 68; exact Calls.regrown_same (is_same (by assumption) (l07Yarn_any _ _))) | (go_at_call 37; exact Calls.regrown_same (is_same (by assumption) (l00In_any _ _ _ _))) | (go_at_call 67; exact Calls.regrown_of (is_below (by assumption) (l01Needle_any _ _ _)))))
            refine wpQuiet_nil ?_
            intro _ hw'
            obtain ⟨⟨dq, osq⟩, hw''⟩ := hw'
            subst hw''
            go_wp2
            go_ret
            exact ⟨ret_bool (by simp_all [vOp, pairB]), (al1 _ _).trans ((below_regrown _ _ _).mono (by simp))⟩
          · have hZb1 : (c == 0) = false := by simp [hZ1]
            repeat (go_big_quiet_step (first | (go_at_call 66; exact Calls.regrown_same (is_same (by assumption) (l07Dir_any _ _))) | (go_at_call 68; exact Calls.regrown_same (is_same (by assumption) (l07Yarn_any _ _))) | (go_at_call 37; exact Calls.regrown_same (is_same (by assumption) (l00In_any _ _ _ _))) | (go_at_call 67; exact Calls.regrown_of (is_below (by assumption) (l01Needle_any _ _ _)))))
            refine wpQuiet_nil ?_
            intro _ hw'
            obtain ⟨⟨dq, osq⟩, hw''⟩ := hw'
            subst hw''
            go_wp2
            go_ret
            exact ⟨ret_bool (by simp_all [vOp, pairB]), (al1 _ _).trans ((below_regrown _ _ _).mono (by simp))⟩
  · have hZb5 : (d == 0) = false := by simp [hZ5]
    repeat (go_big_quiet_step (first | (go_at_call 66; exact Calls.regrown_same (is_same (by assumption) (l07Dir_any _ _))) | (go_at_call 68; exact Calls.regrown_same (is_same (by assumption) (l07Yarn_any _ _))) | (go_at_call 37; exact Calls.regrown_same (is_same (by assumption) (l00In_any _ _ _ _))) | (go_at_call 67; exact Calls.regrown_of (is_below (by assumption) (l01Needle_any _ _ _)))))
    refine wpQuiet_nil ?_
    intro _ hw'
    obtain ⟨⟨dq, osq⟩, hw''⟩ := hw'
    subst hw''
    go_wp2
    go_ret
    exact ⟨ret_bool (by simp_all [vOp, pairB]), (al1 _ _).trans ((below_regrown _ _ _).mono (by simp))⟩

end Go.Proofs.Ytgmppfhokfifgaa
/-
  Contract of the reference's l07Op, by kinds of operations.
-/
namespace Go.Proofs.Ytgmppfhokfifgaa
set_option maxRecDepth 10000
open Go.RowKit Go.Sort
set_option maxRecDepth 100000 in
set_option maxHeartbeats 8000000 in
theorem l07Op_k5 (d fb fa tb ta c r : Int) (b o : Nat) (w : World) (h : OpAt w b o 5 d fb fa tb ta c r) :
    Calls Try.prog 35 #[.pointer (some ⟨b, o, none⟩)] w fun e w' => e = .returned (.bool (vOp 5 d fb fa tb ta c r)) ∧ Below w.heap.size w w' := by
  obtain ⟨hlt, k0, k1, k2, k3, k4, k5, k6, k7, n0, n1, c0⟩ := opAt_facts h
  clear h
  go_enter Try.func35, Try.ntmps35
  go_wp2
  refine wp_region_quiet_below (by kernel_rfl) (by kernel_rfl) ?_
  cases hB5 : dirB d
  · repeat (go_big_quiet_step (first | (go_at_call 66; exact Calls.regrown_same (is_same (by assumption) (l07Dir_any _ _))) | (go_at_call 68; exact Calls.regrown_same (is_same (by assumption) (l07Yarn_any _ _))) | (go_at_call 37; exact Calls.regrown_same (is_same (by assumption) (l00In_any _ _ _ _))) | (go_at_call 67; exact Calls.regrown_of (is_below (by assumption) (l01Needle_any _ _ _)))))
    refine wpQuiet_nil ?_
    intro _ hw'
    obtain ⟨⟨dq, osq⟩, hw''⟩ := hw'
    subst hw''
    go_wp2
    go_ret
    exact ⟨ret_bool (by simp_all [vOp, pairB]), (al1 _ _).trans ((below_regrown _ _ _).mono (by simp))⟩
  · cases hB4 : ndlB fb fa
    · repeat (go_big_quiet_step (first | (go_at_call 66; exact Calls.regrown_same (is_same (by assumption) (l07Dir_any _ _))) | (go_at_call 68; exact Calls.regrown_same (is_same (by assumption) (l07Yarn_any _ _))) | (go_at_call 37; exact Calls.regrown_same (is_same (by assumption) (l00In_any _ _ _ _))) | (go_at_call 67; exact Calls.regrown_of (is_below (by assumption) (l01Needle_any _ _ _)))))
      refine wpQuiet_nil ?_
      intro _ hw'
      obtain ⟨⟨dq, osq⟩, hw''⟩ := hw'
      subst hw''
      go_wp2
      go_ret
      exact ⟨ret_bool (by simp_all [vOp, pairB]), (al1 _ _).trans ((below_regrown _ _ _).mono (by simp))⟩
    · cases hB3 : ndlB tb ta
      · repeat (go_big_quiet_step (first | (go_at_call 66; exact Calls.regrown_same (is_same (by assumption) (l07Dir_any _ _))) | (go_at_call 68; exact Calls.regrown_same (is_same (by assumption) (l07Yarn_any _ _))) | (go_at_call 37; exact Calls.regrown_same (is_same (by assumption) (l00In_any _ _ _ _))) | (go_at_call 67; exact Calls.regrown_of (is_below (by assumption) (l01Needle_any _ _ _)))))
        refine wpQuiet_nil ?_
        intro _ hw'
        obtain ⟨⟨dq, osq⟩, hw''⟩ := hw'
        subst hw''
        go_wp2
        go_ret
        exact ⟨ret_bool (by simp_all [vOp, pairB]), (al1 _ _).trans ((below_regrown _ _ _).mono (by simp))⟩
      · by_cases hN2 : fb = tb
        · subst hN2
          repeat (go_big_quiet_step (first | (go_at_call 66; exact Calls.regrown_same (is_same (by assumption) (l07Dir_any _ _))) | (go_at_call 68; exact Calls.regrown_same (is_same (by assumption) (l07Yarn_any _ _))) | (go_at_call 37; exact Calls.regrown_same (is_same (by assumption) (l00In_any _ _ _ _))) | (go_at_call 67; exact Calls.regrown_of (is_below (by assumption) (l01Needle_any _ _ _)))))
          refine wpQuiet_nil ?_
          intro _ hw'
          obtain ⟨⟨dq, osq⟩, hw''⟩ := hw'
          subst hw''
          go_wp2
          go_ret
          exact ⟨ret_bool (by simp_all [vOp, pairB]), (al1 _ _).trans ((below_regrown _ _ _).mono (by simp))⟩
        · have hNb2 : (fb != tb) = true := by simp [hN2]
          cases hB1 : inR c 1 4
          · repeat (go_big_quiet_step (first | (go_at_call 66; exact Calls.regrown_same (is_same (by assumption) (l07Dir_any _ _))) | (go_at_call 68; exact Calls.regrown_same (is_same (by assumption) (l07Yarn_any _ _))) | (go_at_call 37; exact Calls.regrown_same (is_same (by assumption) (l00In_any _ _ _ _))) | (go_at_call 67; exact Calls.regrown_of (is_below (by assumption) (l01Needle_any _ _ _)))))
            refine wpQuiet_nil ?_
            intro _ hw'
            obtain ⟨⟨dq, osq⟩, hw''⟩ := hw'
            subst hw''
            go_wp2
            go_ret
            exact ⟨ret_bool (by simp_all [vOp, pairB]), (al1 _ _).trans ((below_regrown _ _ _).mono (by simp))⟩
          · repeat (go_big_quiet_step (first | (go_at_call 66; exact Calls.regrown_same (is_same (by assumption) (l07Dir_any _ _))) | (go_at_call 68; exact Calls.regrown_same (is_same (by assumption) (l07Yarn_any _ _))) | (go_at_call 37; exact Calls.regrown_same (is_same (by assumption) (l00In_any _ _ _ _))) | (go_at_call 67; exact Calls.regrown_of (is_below (by assumption) (l01Needle_any _ _ _)))))
            refine wpQuiet_nil ?_
            intro _ hw'
            obtain ⟨⟨dq, osq⟩, hw''⟩ := hw'
            subst hw''
            go_wp2
            go_ret
            exact ⟨ret_bool (by simp_all [vOp, pairB]), (al1 _ _).trans ((below_regrown _ _ _).mono (by simp))⟩
set_option maxRecDepth 100000 in
set_option maxHeartbeats 8000000 in
theorem l07Op_k6 (d fb fa tb ta c r : Int) (b o : Nat) (w : World) (h : OpAt w b o 6 d fb fa tb ta c r) :
    Calls Try.prog 35 #[.pointer (some ⟨b, o, none⟩)] w fun e w' => e = .returned (.bool (vOp 6 d fb fa tb ta c r)) ∧ Below w.heap.size w w' := by
  obtain ⟨hlt, k0, k1, k2, k3, k4, k5, k6, k7, n0, n1, c0⟩ := opAt_facts h
  clear h
  go_enter Try.func35, Try.ntmps35
  go_wp2
  refine wp_region_quiet_below (by kernel_rfl) (by kernel_rfl) ?_
  by_cases hZ5 : d = 0
  · subst hZ5
    cases hB4 : ndlB fb fa
    · repeat (go_big_quiet_step (first | (go_at_call 66; exact Calls.regrown_same (is_same (by assumption) (l07Dir_any _ _))) | (go_at_call 68; exact Calls.regrown_same (is_same (by assumption) (l07Yarn_any _ _))) | (go_at_call 37; exact Calls.regrown_same (is_same (by assumption) (l00In_any _ _ _ _))) | (go_at_call 67; exact Calls.regrown_of (is_below (by assumption) (l01Needle_any _ _ _)))))
      refine wpQuiet_nil ?_
      intro _ hw'
      obtain ⟨⟨dq, osq⟩, hw''⟩ := hw'
      subst hw''
      go_wp2
      go_ret
      exact ⟨ret_bool (by simp_all [vOp]), (al1 _ _).trans ((below_regrown _ _ _).mono (by simp))⟩
    · by_cases hZ3 : tb = 0
      · subst hZ3
        by_cases hZ2 : ta = 0
        · subst hZ2
          by_cases hZ1 : c = 0
          · subst hZ1
            repeat (go_big_quiet_step (first | (go_at_call 66; exact Calls.regrown_same (is_same (by assumption) (l07Dir_any _ _))) | (go_at_call 68; exact Calls.regrown_same (is_same (by assumption) (l07Yarn_any _ _))) | (go_at_call 37; exact Calls.regrown_same (is_same (by assumption) (l00In_any _ _ _ _))) | (go_at_call 67; exact Calls.regrown_of (is_below (by assumption) (l01Needle_any _ _ _)))))
            refine wpQuiet_nil ?_
            intro _ hw'
            obtain ⟨⟨dq, osq⟩, hw''⟩ := hw'
            subst hw''
            go_wp2
            go_ret
            exact ⟨ret_bool (by simp_all [vOp]), (al1 _ _).trans ((below_regrown _ _ _).mono (by simp))⟩
          · have hZb1 : (c == 0) = false := by simp [hZ1]
            repeat (go_big_quiet_step (first | (go_at_call 66; exact Calls.regrown_same (is_same (by assumption) (l07Dir_any _ _))) | (go_at_call 68; exact Calls.regrown_same (is_same (by assumption) (l07Yarn_any _ _))) | (go_at_call 37; exact Calls.regrown_same (is_same (by assumption) (l00In_any _ _ _ _))) | (go_at_call 67; exact Calls.regrown_of (is_below (by assumption) (l01Needle_any _ _ _)))))
            refine wpQuiet_nil ?_
            intro _ hw'
            obtain ⟨⟨dq, osq⟩, hw''⟩ := hw'
            subst hw''
            go_wp2
            go_ret
            exact ⟨ret_bool (by simp_all [vOp]), (al1 _ _).trans ((below_regrown _ _ _).mono (by simp))⟩
        · have hZb2 : (ta == 0) = false := by simp [hZ2]
          repeat (go_big_quiet_step (first | (go_at_call 66; exact Calls.regrown_same (is_same (by assumption) (l07Dir_any _ _))) | (go_at_call 68; exact Calls.regrown_same (is_same (by assumption) (l07Yarn_any _ _))) | (go_at_call 37; exact Calls.regrown_same (is_same (by assumption) (l00In_any _ _ _ _))) | (go_at_call 67; exact Calls.regrown_of (is_below (by assumption) (l01Needle_any _ _ _)))))
          refine wpQuiet_nil ?_
          intro _ hw'
          obtain ⟨⟨dq, osq⟩, hw''⟩ := hw'
          subst hw''
          go_wp2
          go_ret
          exact ⟨ret_bool (by simp_all [vOp]), (al1 _ _).trans ((below_regrown _ _ _).mono (by simp))⟩
      · have hZb3 : (tb == 0) = false := by simp [hZ3]
        repeat (go_big_quiet_step (first | (go_at_call 66; exact Calls.regrown_same (is_same (by assumption) (l07Dir_any _ _))) | (go_at_call 68; exact Calls.regrown_same (is_same (by assumption) (l07Yarn_any _ _))) | (go_at_call 37; exact Calls.regrown_same (is_same (by assumption) (l00In_any _ _ _ _))) | (go_at_call 67; exact Calls.regrown_of (is_below (by assumption) (l01Needle_any _ _ _)))))
        refine wpQuiet_nil ?_
        intro _ hw'
        obtain ⟨⟨dq, osq⟩, hw''⟩ := hw'
        subst hw''
        go_wp2
        go_ret
        exact ⟨ret_bool (by simp_all [vOp]), (al1 _ _).trans ((below_regrown _ _ _).mono (by simp))⟩
  · have hZb5 : (d == 0) = false := by simp [hZ5]
    repeat (go_big_quiet_step (first | (go_at_call 66; exact Calls.regrown_same (is_same (by assumption) (l07Dir_any _ _))) | (go_at_call 68; exact Calls.regrown_same (is_same (by assumption) (l07Yarn_any _ _))) | (go_at_call 37; exact Calls.regrown_same (is_same (by assumption) (l00In_any _ _ _ _))) | (go_at_call 67; exact Calls.regrown_of (is_below (by assumption) (l01Needle_any _ _ _)))))
    refine wpQuiet_nil ?_
    intro _ hw'
    obtain ⟨⟨dq, osq⟩, hw''⟩ := hw'
    subst hw''
    go_wp2
    go_ret
    exact ⟨ret_bool (by simp_all [vOp]), (al1 _ _).trans ((below_regrown _ _ _).mono (by simp))⟩

end Go.Proofs.Ytgmppfhokfifgaa
/-
  Contract of the reference's l07Op, by kinds of operations.
-/
namespace Go.Proofs.Ytgmppfhokfifgaa
set_option maxRecDepth 10000
open Go.RowKit Go.Sort
set_option maxRecDepth 100000 in
set_option maxHeartbeats 8000000 in
theorem l07Op_k7 (d fb fa tb ta c r : Int) (b o : Nat) (w : World) (h : OpAt w b o 7 d fb fa tb ta c r) :
    Calls Try.prog 35 #[.pointer (some ⟨b, o, none⟩)] w fun e w' => e = .returned (.bool (vOp 7 d fb fa tb ta c r)) ∧ Below w.heap.size w w' := by
  obtain ⟨hlt, k0, k1, k2, k3, k4, k5, k6, k7, n0, n1, c0⟩ := opAt_facts h
  clear h
  go_enter Try.func35, Try.ntmps35
  go_wp2
  refine wp_region_quiet_below (by kernel_rfl) (by kernel_rfl) ?_
  by_cases hZ7 : d = 0
  · subst hZ7
    by_cases hZ6 : fb = 0
    · subst hZ6
      by_cases hZ5 : fa = 0
      · subst hZ5
        by_cases hZ4 : tb = 0
        · subst hZ4
          by_cases hZ3 : ta = 0
          · subst hZ3
            by_cases hZ2 : c = 0
            · subst hZ2
              cases hB1 : inR r (-3) 3
              · repeat (go_big_quiet_step (first | (go_at_call 66; exact Calls.regrown_same (is_same (by assumption) (l07Dir_any _ _))) | (go_at_call 68; exact Calls.regrown_same (is_same (by assumption) (l07Yarn_any _ _))) | (go_at_call 37; exact Calls.regrown_same (is_same (by assumption) (l00In_any _ _ _ _))) | (go_at_call 67; exact Calls.regrown_of (is_below (by assumption) (l01Needle_any _ _ _)))))
                refine wpQuiet_nil ?_
                intro _ hw'
                obtain ⟨⟨dq, osq⟩, hw''⟩ := hw'
                subst hw''
                go_wp2
                go_ret
                exact ⟨ret_bool (by simp_all [vOp]), (al1 _ _).trans ((below_regrown _ _ _).mono (by simp))⟩
              · repeat (go_big_quiet_step (first | (go_at_call 66; exact Calls.regrown_same (is_same (by assumption) (l07Dir_any _ _))) | (go_at_call 68; exact Calls.regrown_same (is_same (by assumption) (l07Yarn_any _ _))) | (go_at_call 37; exact Calls.regrown_same (is_same (by assumption) (l00In_any _ _ _ _))) | (go_at_call 67; exact Calls.regrown_of (is_below (by assumption) (l01Needle_any _ _ _)))))
                refine wpQuiet_nil ?_
                intro _ hw'
                obtain ⟨⟨dq, osq⟩, hw''⟩ := hw'
                subst hw''
                go_wp2
                go_ret
                exact ⟨ret_bool (by simp_all [vOp]), (al1 _ _).trans ((below_regrown _ _ _).mono (by simp))⟩
            · have hZb2 : (c == 0) = false := by simp [hZ2]
              repeat (go_big_quiet_step (first | (go_at_call 66; exact Calls.regrown_same (is_same (by assumption) (l07Dir_any _ _))) | (go_at_call 68; exact Calls.regrown_same (is_same (by assumption) (l07Yarn_any _ _))) | (go_at_call 37; exact Calls.regrown_same (is_same (by assumption) (l00In_any _ _ _ _))) | (go_at_call 67; exact Calls.regrown_of (is_below (by assumption) (l01Needle_any _ _ _)))))
              refine wpQuiet_nil ?_
              intro _ hw'
              obtain ⟨⟨dq, osq⟩, hw''⟩ := hw'
              subst hw''
              go_wp2
              go_ret
              exact ⟨ret_bool (by simp_all [vOp]), (al1 _ _).trans ((below_regrown _ _ _).mono (by simp))⟩
          · have hZb3 : (ta == 0) = false := by simp [hZ3]
            repeat (go_big_quiet_step (first | (go_at_call 66; exact Calls.regrown_same (is_same (by assumption) (l07Dir_any _ _))) | (go_at_call 68; exact Calls.regrown_same (is_same (by assumption) (l07Yarn_any _ _))) | (go_at_call 37; exact Calls.regrown_same (is_same (by assumption) (l00In_any _ _ _ _))) | (go_at_call 67; exact Calls.regrown_of (is_below (by assumption) (l01Needle_any _ _ _)))))
            refine wpQuiet_nil ?_
            intro _ hw'
            obtain ⟨⟨dq, osq⟩, hw''⟩ := hw'
            subst hw''
            go_wp2
            go_ret
            exact ⟨ret_bool (by simp_all [vOp]), (al1 _ _).trans ((below_regrown _ _ _).mono (by simp))⟩
        · have hZb4 : (tb == 0) = false := by simp [hZ4]
          repeat (go_big_quiet_step (first | (go_at_call 66; exact Calls.regrown_same (is_same (by assumption) (l07Dir_any _ _))) | (go_at_call 68; exact Calls.regrown_same (is_same (by assumption) (l07Yarn_any _ _))) | (go_at_call 37; exact Calls.regrown_same (is_same (by assumption) (l00In_any _ _ _ _))) | (go_at_call 67; exact Calls.regrown_of (is_below (by assumption) (l01Needle_any _ _ _)))))
          refine wpQuiet_nil ?_
          intro _ hw'
          obtain ⟨⟨dq, osq⟩, hw''⟩ := hw'
          subst hw''
          go_wp2
          go_ret
          exact ⟨ret_bool (by simp_all [vOp]), (al1 _ _).trans ((below_regrown _ _ _).mono (by simp))⟩
      · have hZb5 : (fa == 0) = false := by simp [hZ5]
        repeat (go_big_quiet_step (first | (go_at_call 66; exact Calls.regrown_same (is_same (by assumption) (l07Dir_any _ _))) | (go_at_call 68; exact Calls.regrown_same (is_same (by assumption) (l07Yarn_any _ _))) | (go_at_call 37; exact Calls.regrown_same (is_same (by assumption) (l00In_any _ _ _ _))) | (go_at_call 67; exact Calls.regrown_of (is_below (by assumption) (l01Needle_any _ _ _)))))
        refine wpQuiet_nil ?_
        intro _ hw'
        obtain ⟨⟨dq, osq⟩, hw''⟩ := hw'
        subst hw''
        go_wp2
        go_ret
        exact ⟨ret_bool (by simp_all [vOp]), (al1 _ _).trans ((below_regrown _ _ _).mono (by simp))⟩
    · have hZb6 : (fb == 0) = false := by simp [hZ6]
      repeat (go_big_quiet_step (first | (go_at_call 66; exact Calls.regrown_same (is_same (by assumption) (l07Dir_any _ _))) | (go_at_call 68; exact Calls.regrown_same (is_same (by assumption) (l07Yarn_any _ _))) | (go_at_call 37; exact Calls.regrown_same (is_same (by assumption) (l00In_any _ _ _ _))) | (go_at_call 67; exact Calls.regrown_of (is_below (by assumption) (l01Needle_any _ _ _)))))
      refine wpQuiet_nil ?_
      intro _ hw'
      obtain ⟨⟨dq, osq⟩, hw''⟩ := hw'
      subst hw''
      go_wp2
      go_ret
      exact ⟨ret_bool (by simp_all [vOp]), (al1 _ _).trans ((below_regrown _ _ _).mono (by simp))⟩
  · have hZb7 : (d == 0) = false := by simp [hZ7]
    repeat (go_big_quiet_step (first | (go_at_call 66; exact Calls.regrown_same (is_same (by assumption) (l07Dir_any _ _))) | (go_at_call 68; exact Calls.regrown_same (is_same (by assumption) (l07Yarn_any _ _))) | (go_at_call 37; exact Calls.regrown_same (is_same (by assumption) (l00In_any _ _ _ _))) | (go_at_call 67; exact Calls.regrown_of (is_below (by assumption) (l01Needle_any _ _ _)))))
    refine wpQuiet_nil ?_
    intro _ hw'
    obtain ⟨⟨dq, osq⟩, hw''⟩ := hw'
    subst hw''
    go_wp2
    go_ret
    exact ⟨ret_bool (by simp_all [vOp]), (al1 _ _).trans ((below_regrown _ _ _).mono (by simp))⟩
set_option maxRecDepth 100000 in
set_option maxHeartbeats 8000000 in
theorem l07Op_k8 (d fb fa tb ta c r : Int) (b o : Nat) (w : World) (h : OpAt w b o 8 d fb fa tb ta c r) :
    Calls Try.prog 35 #[.pointer (some ⟨b, o, none⟩)] w fun e w' => e = .returned (.bool (vOp 8 d fb fa tb ta c r)) ∧ Below w.heap.size w w' := by
  obtain ⟨hlt, k0, k1, k2, k3, k4, k5, k6, k7, n0, n1, c0⟩ := opAt_facts h
  clear h
  go_enter Try.func35, Try.ntmps35
  go_wp2
  refine wp_region_quiet_below (by kernel_rfl) (by kernel_rfl) ?_
  by_cases hZ7 : fb = 0
  · subst hZ7
    by_cases hZ6 : fa = 0
    · subst hZ6
      by_cases hZ5 : tb = 0
      · subst hZ5
        by_cases hZ4 : ta = 0
        · subst hZ4
          by_cases hZ3 : r = 0
          · subst hZ3
            cases hB2 : dirB d
            · repeat (go_big_quiet_step (first | (go_at_call 66; exact Calls.regrown_same (is_same (by assumption) (l07Dir_any _ _))) | (go_at_call 68; exact Calls.regrown_same (is_same (by assumption) (l07Yarn_any _ _))) | (go_at_call 37; exact Calls.regrown_same (is_same (by assumption) (l00In_any _ _ _ _))) | (go_at_call 67; exact Calls.regrown_of (is_below (by assumption) (l01Needle_any _ _ _)))))
              refine wpQuiet_nil ?_
              intro _ hw'
              obtain ⟨⟨dq, osq⟩, hw''⟩ := hw'
              subst hw''
              go_wp2
              go_ret
              exact ⟨ret_bool (by simp_all [vOp]), (al1 _ _).trans ((below_regrown _ _ _).mono (by simp))⟩
            · cases hB1 : inR c 1 4
              · repeat (go_big_quiet_step (first | (go_at_call 66; exact Calls.regrown_same (is_same (by assumption) (l07Dir_any _ _))) | (go_at_call 68; exact Calls.regrown_same (is_same (by assumption) (l07Yarn_any _ _))) | (go_at_call 37; exact Calls.regrown_same (is_same (by assumption) (l00In_any _ _ _ _))) | (go_at_call 67; exact Calls.regrown_of (is_below (by assumption) (l01Needle_any _ _ _)))))
                refine wpQuiet_nil ?_
                intro _ hw'
                obtain ⟨⟨dq, osq⟩, hw''⟩ := hw'
                subst hw''
                go_wp2
                go_ret
                exact ⟨ret_bool (by simp_all [vOp]), (al1 _ _).trans ((below_regrown _ _ _).mono (by simp))⟩
              · repeat (go_big_quiet_step (first | (go_at_call 66; exact Calls.regrown_same (is_same (by assumption) (l07Dir_any _ _))) | (go_at_call 68; exact Calls.regrown_same (is_same (by assumption) (l07Yarn_any _ _))) | (go_at_call 37; exact Calls.regrown_same (is_same (by assumption) (l00In_any _ _ _ _))) | (go_at_call 67; exact Calls.regrown_of (is_below (by assumption) (l01Needle_any _ _ _)))))
                refine wpQuiet_nil ?_
                intro _ hw'
                obtain ⟨⟨dq, osq⟩, hw''⟩ := hw'
                subst hw''
                go_wp2
                go_ret
                exact ⟨ret_bool (by simp_all [vOp]), (al1 _ _).trans ((below_regrown _ _ _).mono (by simp))⟩
          · have hZb3 : (r == 0) = false := by simp [hZ3]
            repeat (go_big_quiet_step (first | (go_at_call 66; exact Calls.regrown_same (is_same (by assumption) (l07Dir_any _ _))) | (go_at_call 68; exact Calls.regrown_same (is_same (by assumption) (l07Yarn_any _ _))) | (go_at_call 37; exact Calls.regrown_same (is_same (by assumption) (l00In_any _ _ _ _))) | (go_at_call 67; exact Calls.regrown_of (is_below (by assumption) (l01Needle_any _ _ _)))))
            refine wpQuiet_nil ?_
            intro _ hw'
            obtain ⟨⟨dq, osq⟩, hw''⟩ := hw'
            subst hw''
            go_wp2
            go_ret
            exact ⟨ret_bool (by simp_all [vOp]), (al1 _ _).trans ((below_regrown _ _ _).mono (by simp))⟩
        · have hZb4 : (ta == 0) = false := by simp [hZ4]
          repeat (go_big_quiet_step (first | (go_at_call 66; exact Calls.regrown_same (is_same (by assumption) (l07Dir_any _ _))) | (go_at_call 68; exact Calls.regrown_same (is_same (by assumption) (l07Yarn_any _ _))) | (go_at_call 37; exact Calls.regrown_same (is_same (by assumption) (l00In_any _ _ _ _))) | (go_at_call 67; exact Calls.regrown_of (is_below (by assumption) (l01Needle_any _ _ _)))))
          refine wpQuiet_nil ?_
          intro _ hw'
          obtain ⟨⟨dq, osq⟩, hw''⟩ := hw'
          subst hw''
          go_wp2
          go_ret
          exact ⟨ret_bool (by simp_all [vOp]), (al1 _ _).trans ((below_regrown _ _ _).mono (by simp))⟩
      · have hZb5 : (tb == 0) = false := by simp [hZ5]
        repeat (go_big_quiet_step (first | (go_at_call 66; exact Calls.regrown_same (is_same (by assumption) (l07Dir_any _ _))) | (go_at_call 68; exact Calls.regrown_same (is_same (by assumption) (l07Yarn_any _ _))) | (go_at_call 37; exact Calls.regrown_same (is_same (by assumption) (l00In_any _ _ _ _))) | (go_at_call 67; exact Calls.regrown_of (is_below (by assumption) (l01Needle_any _ _ _)))))
        refine wpQuiet_nil ?_
        intro _ hw'
        obtain ⟨⟨dq, osq⟩, hw''⟩ := hw'
        subst hw''
        go_wp2
        go_ret
        exact ⟨ret_bool (by simp_all [vOp]), (al1 _ _).trans ((below_regrown _ _ _).mono (by simp))⟩
    · have hZb6 : (fa == 0) = false := by simp [hZ6]
      repeat (go_big_quiet_step (first | (go_at_call 66; exact Calls.regrown_same (is_same (by assumption) (l07Dir_any _ _))) | (go_at_call 68; exact Calls.regrown_same (is_same (by assumption) (l07Yarn_any _ _))) | (go_at_call 37; exact Calls.regrown_same (is_same (by assumption) (l00In_any _ _ _ _))) | (go_at_call 67; exact Calls.regrown_of (is_below (by assumption) (l01Needle_any _ _ _)))))
      refine wpQuiet_nil ?_
      intro _ hw'
      obtain ⟨⟨dq, osq⟩, hw''⟩ := hw'
      subst hw''
      go_wp2
      go_ret
      exact ⟨ret_bool (by simp_all [vOp]), (al1 _ _).trans ((below_regrown _ _ _).mono (by simp))⟩
  · have hZb7 : (fb == 0) = false := by simp [hZ7]
    repeat (go_big_quiet_step (first | (go_at_call 66; exact Calls.regrown_same (is_same (by assumption) (l07Dir_any _ _))) | (go_at_call 68; exact Calls.regrown_same (is_same (by assumption) (l07Yarn_any _ _))) | (go_at_call 37; exact Calls.regrown_same (is_same (by assumption) (l00In_any _ _ _ _))) | (go_at_call 67; exact Calls.regrown_of (is_below (by assumption) (l01Needle_any _ _ _)))))
    refine wpQuiet_nil ?_
    intro _ hw'
    obtain ⟨⟨dq, osq⟩, hw''⟩ := hw'
    subst hw''
    go_wp2
    go_ret
    exact ⟨ret_bool (by simp_all [vOp]), (al1 _ _).trans ((below_regrown _ _ _).mono (by simp))⟩
set_option maxRecDepth 100000 in
set_option maxHeartbeats 8000000 in
theorem l07Op_k9 (d fb fa tb ta c r : Int) (b o : Nat) (w : World) (h : OpAt w b o 9 d fb fa tb ta c r) :
    Calls Try.prog 35 #[.pointer (some ⟨b, o, none⟩)] w fun e w' => e = .returned (.bool (vOp 9 d fb fa tb ta c r)) ∧ Below w.heap.size w w' := by
  obtain ⟨hlt, k0, k1, k2, k3, k4, k5, k6, k7, n0, n1, c0⟩ := opAt_facts h
  clear h
  go_enter Try.func35, Try.ntmps35
  go_wp2
  refine wp_region_quiet_below (by kernel_rfl) (by kernel_rfl) ?_
  by_cases hZ7 : d = 0
  · subst hZ7
    by_cases hZ6 : fb = 0
    · subst hZ6
      by_cases hZ5 : fa = 0
      · subst hZ5
        by_cases hZ4 : tb = 0
        · subst hZ4
          by_cases hZ3 : ta = 0
          · subst hZ3
            by_cases hZ2 : r = 0
            · subst hZ2
              cases hB1 : inR c 1 4
              · repeat (go_big_quiet_step (first | (go_at_call 66; exact Calls.regrown_same (is_same (by assumption) (l07Dir_any _ _))) | (go_at_call 68; exact Calls.regrown_same (is_same (by assumption) (l07Yarn_any _ _))) | (go_at_call 37; exact Calls.regrown_same (is_same (by assumption) (l00In_any _ _ _ _))) | (go_at_call 67; exact Calls.regrown_of (is_below (by assumption) (l01Needle_any _ _ _)))))
                refine wpQuiet_nil ?_
                intro _ hw'
                obtain ⟨⟨dq, osq⟩, hw''⟩ := hw'
                subst hw''
                go_wp2
                go_ret
                exact ⟨ret_bool (by simp_all [vOp]), (al1 _ _).trans ((below_regrown _ _ _).mono (by simp))⟩
              · repeat (go_big_quiet_step (first | (go_at_call 66; exact Calls.regrown_same (is_same (by assumption) (l07Dir_any _ _))) | (go_at_call 68; exact Calls.regrown_same (is_same (by assumption) (l07Yarn_any _ _))) | (go_at_call 37; exact Calls.regrown_same (is_same (by assumption) (l00In_any _ _ _ _))) | (go_at_call 67; exact Calls.regrown_of (is_below (by assumption) (l01Needle_any _ _ _)))))
                refine wpQuiet_nil ?_
                intro _ hw'
                obtain ⟨⟨dq, osq⟩, hw''⟩ := hw'
                subst hw''
                go_wp2
                go_ret
                exact ⟨ret_bool (by simp_all [vOp]), (al1 _ _).trans ((below_regrown _ _ _).mono (by simp))⟩
            · have hZb2 : (r == 0) = false := by simp [hZ2]
              repeat (go_big_quiet_step (first | (go_at_call 66; exact Calls.regrown_same (is_same (by assumption) (l07Dir_any _ _))) | (go_at_call 68; exact Calls.regrown_same (is_same (by assumption) (l07Yarn_any _ _))) | (go_at_call 37; exact Calls.regrown_same (is_same (by assumption) (l00In_any _ _ _ _))) | (go_at_call 67; exact Calls.regrown_of (is_below (by assumption) (l01Needle_any _ _ _)))))
              refine wpQuiet_nil ?_
              intro _ hw'
              obtain ⟨⟨dq, osq⟩, hw''⟩ := hw'
              subst hw''
              go_wp2
              go_ret
              exact ⟨ret_bool (by simp_all [vOp]), (al1 _ _).trans ((below_regrown _ _ _).mono (by simp))⟩
          · have hZb3 : (ta == 0) = false := by simp [hZ3]
            repeat (go_big_quiet_step (first | (go_at_call 66; exact Calls.regrown_same (is_same (by assumption) (l07Dir_any _ _))) | (go_at_call 68; exact Calls.regrown_same (is_same (by assumption) (l07Yarn_any _ _))) | (go_at_call 37; exact Calls.regrown_same (is_same (by assumption) (l00In_any _ _ _ _))) | (go_at_call 67; exact Calls.regrown_of (is_below (by assumption) (l01Needle_any _ _ _)))))
            refine wpQuiet_nil ?_
            intro _ hw'
            obtain ⟨⟨dq, osq⟩, hw''⟩ := hw'
            subst hw''
            go_wp2
            go_ret
            exact ⟨ret_bool (by simp_all [vOp]), (al1 _ _).trans ((below_regrown _ _ _).mono (by simp))⟩
        · have hZb4 : (tb == 0) = false := by simp [hZ4]
          repeat (go_big_quiet_step (first | (go_at_call 66; exact Calls.regrown_same (is_same (by assumption) (l07Dir_any _ _))) | (go_at_call 68; exact Calls.regrown_same (is_same (by assumption) (l07Yarn_any _ _))) | (go_at_call 37; exact Calls.regrown_same (is_same (by assumption) (l00In_any _ _ _ _))) | (go_at_call 67; exact Calls.regrown_of (is_below (by assumption) (l01Needle_any _ _ _)))))
          refine wpQuiet_nil ?_
          intro _ hw'
          obtain ⟨⟨dq, osq⟩, hw''⟩ := hw'
          subst hw''
          go_wp2
          go_ret
          exact ⟨ret_bool (by simp_all [vOp]), (al1 _ _).trans ((below_regrown _ _ _).mono (by simp))⟩
      · have hZb5 : (fa == 0) = false := by simp [hZ5]
        repeat (go_big_quiet_step (first | (go_at_call 66; exact Calls.regrown_same (is_same (by assumption) (l07Dir_any _ _))) | (go_at_call 68; exact Calls.regrown_same (is_same (by assumption) (l07Yarn_any _ _))) | (go_at_call 37; exact Calls.regrown_same (is_same (by assumption) (l00In_any _ _ _ _))) | (go_at_call 67; exact Calls.regrown_of (is_below (by assumption) (l01Needle_any _ _ _)))))
        refine wpQuiet_nil ?_
        intro _ hw'
        obtain ⟨⟨dq, osq⟩, hw''⟩ := hw'
        subst hw''
        go_wp2
        go_ret
        exact ⟨ret_bool (by simp_all [vOp]), (al1 _ _).trans ((below_regrown _ _ _).mono (by simp))⟩
    · have hZb6 : (fb == 0) = false := by simp [hZ6]
      repeat (go_big_quiet_step (first | (go_at_call 66; exact Calls.regrown_same (is_same (by assumption) (l07Dir_any _ _))) | (go_at_call 68; exact Calls.regrown_same (is_same (by assumption) (l07Yarn_any _ _))) | (go_at_call 37; exact Calls.regrown_same (is_same (by assumption) (l00In_any _ _ _ _))) | (go_at_call 67; exact Calls.regrown_of (is_below (by assumption) (l01Needle_any _ _ _)))))
      refine wpQuiet_nil ?_
      intro _ hw'
      obtain ⟨⟨dq, osq⟩, hw''⟩ := hw'
      subst hw''
      go_wp2
      go_ret
      exact ⟨ret_bool (by simp_all [vOp]), (al1 _ _).trans ((below_regrown _ _ _).mono (by simp))⟩
  · have hZb7 : (d == 0) = false := by simp [hZ7]
    repeat (go_big_quiet_step (first | (go_at_call 66; exact Calls.regrown_same (is_same (by assumption) (l07Dir_any _ _))) | (go_at_call 68; exact Calls.regrown_same (is_same (by assumption) (l07Yarn_any _ _))) | (go_at_call 37; exact Calls.regrown_same (is_same (by assumption) (l00In_any _ _ _ _))) | (go_at_call 67; exact Calls.regrown_of (is_below (by assumption) (l01Needle_any _ _ _)))))
    refine wpQuiet_nil ?_
    intro _ hw'
    obtain ⟨⟨dq, osq⟩, hw''⟩ := hw'
    subst hw''
    go_wp2
    go_ret
    exact ⟨ret_bool (by simp_all [vOp]), (al1 _ _).trans ((below_regrown _ _ _).mono (by simp))⟩

end Go.Proofs.Ytgmppfhokfifgaa
/-
  Contract of the reference's l07Op, by kinds of operations.
-/
namespace Go.Proofs.Ytgmppfhokfifgaa
set_option maxRecDepth 10000
open Go.RowKit Go.Sort
set_option maxRecDepth 100000 in
set_option maxHeartbeats 8000000 in
theorem l07Op_any (k d fb fa tb ta c r : Int) (b o : Nat) (w : World) (h : OpAt w b o k d fb fa tb ta c r) :
    Calls Try.prog 35 #[.pointer (some ⟨b, o, none⟩)] w fun e w' => e = .returned (.bool (vOp k d fb fa tb ta c r)) ∧ Below w.heap.size w w' := by
  rcases (show k = 1 ∨ k = 2 ∨ k = 3 ∨ k = 4 ∨ k = 5 ∨ k = 6 ∨ k = 7 ∨ k = 8 ∨ k = 9 ∨ (k ≠ 1 ∧ k ≠ 2 ∧ k ≠ 3 ∧ k ≠ 4 ∧ k ≠ 5 ∧ k ≠ 6 ∧ k ≠ 7 ∧ k ≠ 8 ∧ k ≠ 9) from by omega) with rfl | rfl | rfl | rfl | rfl | rfl | rfl | rfl | rfl | ⟨h1, h2, h3, h4, h5, h6, h7, h8, h9⟩
  · exact l07Op_k1 d fb fa tb ta c r b o w h
  · exact l07Op_k2 d fb fa tb ta c r b o w h
  · exact l07Op_k3 d fb fa tb ta c r b o w h
  · exact l07Op_k4 d fb fa tb ta c r b o w h
  · exact l07Op_k5 d fb fa tb ta c r b o w h
  · exact l07Op_k6 d fb fa tb ta c r b o w h
  · exact l07Op_k7 d fb fa tb ta c r b o w h
  · exact l07Op_k8 d fb fa tb ta c r b o w h
  · exact l07Op_k9 d fb fa tb ta c r b o w h
  · obtain ⟨hlt, k0, k1, k2, k3, k4, k5, k6, k7, n0, n1, c0⟩ := opAt_facts h
    clear h
    go_enter Try.func35, Try.ntmps35
    go_wp2
    go_ret
    exact ⟨ret_bool (by simp_all [vOp]), al1 _ _⟩

end Go.Proofs.Ytgmppfhokfifgaa
