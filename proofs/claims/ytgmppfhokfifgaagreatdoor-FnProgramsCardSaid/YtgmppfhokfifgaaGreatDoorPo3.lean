/-
  Contracts: operations valid for a width (the program's validFor, the reference's l07Ops); a slice of operations as an argument of a law.
-/
import Derived.Test.YtgmppfhokfifgaaGreatDoorPo2
import Derived.Test.YtgmppfhokfifgaaGreatDoorOps
import Derived.Test.YtgmppfhokfifgaaGreatDoorOpen
import Derived.Deep.Slices
namespace Go.Proofs.YtgmppfhokfifgaaGreatDoor
set_option maxRecDepth 10000
open Go.RowKit Go.ChangeShapes Go.WideShapes Go.ChangeAt Go.Deep

theorem dec_lt (a b : Int) : decide (a < b) = !decide (b ≤ a) := by
  by_cases h : a < b
  · have h2 : ¬ b ≤ a := by omega
    simp only [h, h2, decide_true, decide_false, Bool.not_false]
  · have h2 : b ≤ a := by omega
    simp only [h, h2, decide_true, decide_false, Bool.not_true]
set_option maxHeartbeats 1600000 in
theorem validFor1_any (o : List Int) (n : Int) (p : Addr) (w : World) (hc : w.cell? p = some (.int .i64 n)) :
    Calls Tryz.prog 49 #[.agg #[.int .i64 (gi o 0), .int .i64 (gi o 1), .int .i64 (gi o 2), .int .i64 (gi o 3), .int .i64 (gi o 4), .int .i64 (gi o 5), .int .i64 (gi o 6), .int .i64 (gi o 7)], .pointer (some p)] w fun e w' => e = .returned (.bool (!(opB o && fitB n o))) ∧ Below w.heap.size w w' := by
  have hpl := block_lt_of_cell hc
  have hB : opB o = vOp (gi o 0) (gi o 1) (gi o 2) (gi o 3) (gi o 4) (gi o 5) (gi o 6) (gi o 7) := rfl
  have hF : fitB n o = (decide (gi o 3 < n) && decide (gi o 5 < n)) := rfl
  generalize hX : opB o = X at *
  generalize gi o 0 = o0 at *
  generalize gi o 1 = o1 at *
  generalize gi o 2 = o2 at *
  generalize gi o 3 = o3 at *
  generalize gi o 4 = o4 at *
  generalize gi o 5 = o5 at *
  generalize gi o 6 = o6 at *
  generalize gi o 7 = o7 at *
  have HB := Lib.hid hB
  have HF := Lib.hid hF
  clear hB hF
  have hA := al1 w (.cells #[.int .i64 o0, .int .i64 o1, .int .i64 o2, .int .i64 o3, .int .i64 o4, .int .i64 o5, .int .i64 o6, .int .i64 o7] 38)
  cases X
  · go_enter Tryz.func49, Tryz.ntmps49
    go_wp2_with fail
    refine (is_below HB.out.symm (impl_ValidOp_any o0 o1 o2 o3 o4 o5 o6 o7 _)).mono ?_
    rintro e w1 ⟨rfl, hb⟩
    obtain ⟨hcc, hf⟩ := bcell hb
    go_wp2_with fail
    go_ret
    exact ⟨ret_bool (by simp), hA.trans (hb.mono hA.size)⟩
  · cases h3 : decide (n ≤ o3) <;> cases h5 : decide (n ≤ o5)
    all_goals
      have HG := Lib.hid (show fitB n o = _ by rw [HF.out, dec_lt o3 n, dec_lt o5 n])
      simp only [h3, h5, Bool.not_true, Bool.not_false, Bool.and_true, Bool.and_false, Bool.and_self] at HG
      go_enter Tryz.func49, Tryz.ntmps49
      go_wp2_with fail
      refine (is_below HB.out.symm (impl_ValidOp_any o0 o1 o2 o3 o4 o5 o6 o7 _)).mono ?_
      rintro e w1 ⟨rfl, hb⟩
      obtain ⟨hcc, hf⟩ := bcell hb
      have hc1 : w1.cell? p = some (.int .i64 n) := by rw [hb.cell (by simp; omega), World.cell?_alloc_lt _ _ _ hpl]; exact hc
      go_wp2_with fail
      go_ret
      exact ⟨ret_bool (by rw [HG.out]; simp), hA.trans (hb.mono hA.size)⟩
set_option maxHeartbeats 1600000 in
theorem indexOps_any (v : Value) (os : List (List Int)) (B : Nat) (n : Int) (p : Addr) (w : World) (h : SlR 8 w B v os) (hB : B ≤ w.heap.size) (hc : w.cell? p = some (.int .i64 n)) :
    Calls Tryz.prog 84 #[v, .func (.func 49) #[] #[.pointer (some p)]] w fun e w' =>
      (∃ r : Int, e = .returned (.int .i64 r) ∧ -1 ≤ r ∧ (os.all fun o => opB o && fitB n o) = decide (r < 0)) ∧ Below w.heap.size w w' := by
  obtain ⟨A, c, rfl, hl, hm, _, hcells⟩ := h
  unfold maxLen at hm
  have HC := Lib.hid hcells
  have hpl := block_lt_of_cell hc
  clear hcells
  go_enter Tryz.func84, Tryz.ntmps84
  go_wp2
  go_loopw [8] (fun i wr => ∃ k : Nat, k ≤ os.length ∧ i = .int .i64 k ∧ (∀ j, j < k → (opB (gl os j) && fitB n (gl os j)) = true) ∧ Below w.heap.size w wr) (fun i _ => os.length - (intOf i).toNat)
  case atStart => exact ⟨0, Nat.zero_le _, rfl, fun j hj => absurd hj (Nat.not_lt_zero _), Below.refl _ _⟩
  case round =>
    obtain ⟨k, hk, rfl, hgood, hb⟩ := hrel
    have HG := Lib.hid hgood
    clear hgood
    by_cases hlt : k < os.length
    · obtain ⟨b, off, rfl, hbB, hcell⟩ := HC.out (by omega)
      obtain ⟨q0, q1, q2, q3, q4, q5, q6, q7⟩ := opAt_of (fun j hj => (show wr.cell? ⟨b, off + k * 8 + j, none⟩ = some (.int .i64 (gi (gl os k) j)) by rw [hb.cell (by simp only; omega)]; exact hcell k hlt j hj))
      have hc1 : wr.cell? p = some (.int .i64 n) := by rw [hb.cell hpl]; exact hc
      clear hcell
      cases hok : (opB (gl os k) && fitB n (gl os k))
      · have HF := Lib.hid (all_no (p := fun o => opB o && fitB n o) hlt hok)
        go_wp2_with (go_at_call 49; refine (validFor1_any _ n p _ hc1).mono ?_; rintro e w2 ⟨rfl, hb2⟩; rw [hok])
        go_ret
        exact ⟨⟨k, rfl, by omega, by rw [HF.out]; simp⟩, hb.trans (hb2.mono hb.size)⟩
      · go_wp2_with (go_at_call 49; refine (validFor1_any _ n p _ hc1).mono ?_; rintro e w2 ⟨rfl, hb2⟩; rw [hok])
        go_roundw
        case rel =>
          refine ⟨k + 1, by omega, by go_num, fun j hj => ?_, hb.trans (hb2.mono hb.size)⟩
          by_cases hjk : j < k
          · exact HG.out j hjk
          · obtain rfl : j = k := by omega
            exact hok
        case measure => simp [intOf]; omega
    · go_wp2
      go_ret
      exact ⟨⟨-1, rfl, by omega, by rw [all_iff.2 fun j hj => HG.out j (by omega)]; simp⟩, hb⟩
set_option maxHeartbeats 400000 in
theorem containsOps_any (v : Value) (os : List (List Int)) (B : Nat) (n : Int) (p : Addr) (w : World) (h : SlR 8 w B v os) (hB : B ≤ w.heap.size) (hc : w.cell? p = some (.int .i64 n)) :
    Calls Tryz.prog 48 #[v, .func (.func 49) #[] #[.pointer (some p)]] w fun e w' => e = .returned (.bool (!(os.all fun o => opB o && fitB n o))) ∧ Below w.heap.size w w' := by
  go_enter Tryz.func48, Tryz.ntmps48
  go_wp2_with (go_at_call 84; refine (indexOps_any _ os B n p _ h hB hc).mono ?_; rintro e w' ⟨⟨r, rfl, hr, hlet⟩, hb⟩; have HL := Lib.hid hlet; clear hlet)
  go_ret
  refine ⟨ret_bool ?_, hb⟩
  rw [HL.out]
  by_cases hr0 : r < 0 <;> simp [hr0]
  omega
set_option maxHeartbeats 800000 in
theorem validFor_any (n : Int) (v : Value) (os : List (List Int)) (B : Nat) (w : World) (h : SlR 8 w B v os) (hB : B ≤ w.heap.size) :
    Calls Tryz.prog 28 #[.int .i64 n, v] w fun e w' => e = .returned (.bool (okOps n os)) ∧ Below w.heap.size w w' := by
  obtain ⟨A, c, rfl, hl, hm, -⟩ := id h
  unfold maxLen at hm
  have hA := al1 w (.cells #[.int .i64 n] 2)
  have h1 := h.below hA hB
  cases hin : inR n 1 24
  · have HE := Lib.hid (show okOps n os = false by simp [okOps, hin])
    go_enter Tryz.func28, Tryz.ntmps28
    go_wp2_with (go_at_call 45; refine (is_same hin (within_any _ _ _ _)).mono ?_; rintro e w' ⟨rfl, rfl⟩)
    go_ret
    exact ⟨ret_bool HE.out.symm, hA⟩
  · by_cases hlen : os.length ≤ 1500
    · have hlI : (os.length : Int) ≤ 1500 := by omega
      have HE := Lib.hid (show okOps n os = os.all fun o => opB o && fitB n o by simp [okOps, hin, hlen])
      go_enter Tryz.func28, Tryz.ntmps28
      go_wp2_with (first | (go_at_call 45; refine (is_same hin (within_any _ _ _ _)).mono ?_; rintro e w' ⟨rfl, rfl⟩) | (go_at_call 48; refine (containsOps_any _ os B n _ _ h1 (Nat.le_trans hB hA.size) (by simp)).mono ?_; rintro e w1 ⟨rfl, hb⟩))
      go_ret
      exact ⟨ret_bool (by simp [HE.out]), hA.trans (hb.mono hA.size)⟩
    · have hlI : decide ((os.length : Int) ≤ 1500) = false := by simp; omega
      have HE := Lib.hid (show okOps n os = false by simp [okOps, hlen])
      go_enter Tryz.func28, Tryz.ntmps28
      go_wp2_with (first | (go_at_call 45; refine (is_same hin (within_any _ _ _ _)).mono ?_; rintro e w' ⟨rfl, rfl⟩))
      go_ret
      exact ⟨ret_bool HE.out.symm, hA⟩
end Go.Proofs.YtgmppfhokfifgaaGreatDoor
