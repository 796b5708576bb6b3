/-
  Contracts: operations by value: toNeedle, toOp, ValidOp of the program and of the reference.
-/
import Derived.Test.YtgmppfhokfifgaaGreatDoorSmall
import Derived.BigGuardPart
namespace Go.Proofs.YtgmppfhokfifgaaGreatDoor
set_option maxRecDepth 10000
open Go.RowKit Go.Sort

/-- Is an operation valid? (kind, direction, from bed and at, to bed and at, carrier, rack) -/
def vOp (k d fb fa tb ta c r : Int) : Bool :=
  if k = 1 ∨ k = 2 ∨ k = 3 then dirB d && ndlB fb fa && inR c 1 4 && (tb == 0 && ta == 0) && r == 0
  else if k = 4 then pairB fb fa tb ta && d == 0 && c == 0 && r == 0
  else if k = 5 then pairB fb fa tb ta && dirB d && inR c 1 4 && r == 0
  else if k = 6 then ndlB fb fa && d == 0 && (tb == 0 && ta == 0) && c == 0 && r == 0
  else if k = 7 then inR r (-3) 3 && d == 0 && (fb == 0 && fa == 0) && (tb == 0 && ta == 0) && c == 0
  else if k = 8 then dirB d && inR c 1 4 && (fb == 0 && fa == 0) && (tb == 0 && ta == 0) && r == 0
  else if k = 9 then inR c 1 4 && d == 0 && (fb == 0 && fa == 0) && (tb == 0 && ta == 0) && r == 0
  else false

set_option maxRecDepth 100000 in
set_option maxHeartbeats 4000000 in
theorem impl_ValidOp_any (k d fb fa tb ta c r : Int) (w : World) :
    Calls Tryz.prog 35 #[.agg #[.int .i64 k, .int .i64 d, .int .i64 fb, .int .i64 fa, .int .i64 tb, .int .i64 ta, .int .i64 c, .int .i64 r]] w fun e w' => e = .returned (.bool (vOp k d fb fa tb ta c r)) ∧ Below w.heap.size w w' := by
  rcases (show k = 1 ∨ k = 2 ∨ k = 3 ∨ k = 4 ∨ k = 5 ∨ k = 6 ∨ k = 7 ∨ k = 8 ∨ k = 9 ∨ (k ≠ 1 ∧ k ≠ 2 ∧ k ≠ 3 ∧ k ≠ 4 ∧ k ≠ 5 ∧ k ≠ 6 ∧ k ≠ 7 ∧ k ≠ 8 ∧ k ≠ 9) from by omega) with h | h | h | h | h | h | h | h | h | ⟨h1, h2, h3, h4, h5, h6, h7, h8, h9⟩
  all_goals
    try subst h
    go_enter Tryz.func35, Tryz.ntmps35
    go_wp2_with (first | (go_at_call 60; refine (isDirection_any _ _).mono ?_; rintro e w' ⟨rfl, rfl⟩) | (go_at_call 62; refine (isCarrier_any _ _).mono ?_; rintro e w' ⟨rfl, rfl⟩) | (go_at_call 64; refine (isRack_any _ _).mono ?_; rintro e w' ⟨rfl, rfl⟩) | (go_at_call 61; refine (ValidNeedle_any _ _ _).mono ?_; rintro e w1 ⟨rfl, hb⟩; obtain ⟨hc, hf⟩ := bcell hb) | (go_at_call 63; refine (isPair_any _ _ _ _ _).mono ?_; rintro e w1 ⟨rfl, hb⟩; obtain ⟨hc, hf⟩ := bcell hb))
    all_goals (go_ret; exact ⟨ret_bool (by simp_all [vOp]), by (first | exact al1 _ _ | exact (al1 _ _).trans (hb.mono (by simp)))⟩)
/-- The eight cells of an operation in memory. -/
structure OpAt (w : World) (b o : Nat) (k d fb fa tb ta c r : Int) : Prop where
  c0 : w.cell? ⟨b, o, none⟩ = some (.int .i64 k)
  c1 : w.cell? ⟨b, o + 1, none⟩ = some (.int .i64 d)
  c2 : w.cell? ⟨b, o + 2, none⟩ = some (.int .i64 fb)
  c3 : w.cell? ⟨b, o + 3, none⟩ = some (.int .i64 fa)
  c4 : w.cell? ⟨b, o + 4, none⟩ = some (.int .i64 tb)
  c5 : w.cell? ⟨b, o + 5, none⟩ = some (.int .i64 ta)
  c6 : w.cell? ⟨b, o + 6, none⟩ = some (.int .i64 c)
  c7 : w.cell? ⟨b, o + 7, none⟩ = some (.int .i64 r)
end Go.Proofs.YtgmppfhokfifgaaGreatDoor
