/-
  Contracts: what a valid braid is (the program's ValidBraid, the reference's l03Ok).
-/
import Derived.Test.YtcoocjdkppdlmaaFree
import Derived.Test.YtcoocjdkppdlmaaBraid
namespace Go.Proofs.Ytcoocjdkppdlmaa
set_option maxRecDepth 10000
open Go.RowKit

def okBr (s : Int) (xs : List Int) : Bool := inR s 0 12 && decide (xs.length ≤ 40) && letters s xs
theorem okBr_parts {s : Int} {xs : List Int} (h : okBr s xs = true) : 0 ≤ s ∧ s ≤ 12 ∧ xs.length ≤ 40 ∧ letters s xs = true := by
  simp only [okBr, Bool.and_eq_true, decide_eq_true_eq] at h
  have := inR_iff.1 h.1.1
  exact ⟨this.1, this.2, h.1.2, h.2⟩
theorem okBr_mem {s : Int} {xs : List Int} (h : okBr s xs = true) : ∀ x ∈ xs, x ≠ 0 ∧ -11 ≤ x ∧ x ≤ 11 := fun x hx => by
  obtain ⟨h1, h2, _, h4⟩ := okBr_parts h
  have := letters_mem h4 x hx
  omega
set_option maxHeartbeats 400000 in
theorem l03Letters_any (v : Value) (xs : List Int) (B : Nat) (s : Int) (w : World) (h : Sl w B v xs) (h0 : 0 ≤ s) (h1 : s ≤ 12) :
    Calls Try.prog 90 #[v, .int .i64 s] w fun e w' => e = .returned (.bool (letters s xs)) ∧ w = w' := by
  obtain ⟨A, c, rfl, hl, hm, _, hcells⟩ := h
  unfold maxLen at hm
  have HC := Lib.hid hcells
  clear hcells
  go_enter Try.func90, Try.ntmps90
  go_wp2
  go_loop [5] (fun i => ∃ k : Nat, k ≤ xs.length ∧ i = .int .i64 k ∧ ∀ j, j < k → badLetter s (gi xs j) = false) (fun i => xs.length - (intOf i).toNat)
  case atStart => exact ⟨0, Nat.zero_le _, rfl, fun j hj => absurd hj (Nat.not_lt_zero _)⟩
  case round =>
    obtain ⟨k, hk, rfl, hgood⟩ := hrel
    have HG := Lib.hid hgood
    clear hgood
    by_cases hlt : k < xs.length
    · obtain ⟨b, off, rfl, hbB, hcell⟩ := HC.out (by omega)
      have q1 := hcell k hlt
      clear hcell
      by_cases hz : gi xs k = 0
      · have HF := Lib.hid (letters_false hlt (badLetter_yes (s := s) (.inl hz)))
        have hzb : (gi xs k == 0) = true := by simp [hz]
        clear hz
        go_wp2
        go_ret
        exact ⟨ret_bool HF.out.symm, rfl⟩
      · have hzb : (gi xs k == 0) = false := by simp [hz]
        by_cases hin : 1 - s ≤ gi xs k ∧ gi xs k ≤ s - 1
        · have hinb : inR (gi xs k) (1 - s) (s - 1) = true := inR_yes hin.1 hin.2
          have HN := Lib.hid (badLetter_no (s := s) hz (by omega) (by omega))
          clear hz hin
          go_wp2_with (go_at_call 82; refine (l00In_any _ _ _ _).mono ?_; rintro e w' ⟨rfl, rfl⟩)
          go_round
          case rel =>
            refine ⟨k + 1, by omega, by go_num, fun j hj => ?_⟩
            by_cases hjk : j < k
            · exact HG.out j hjk
            · obtain rfl : j = k := by omega
              exact HN.out
          case measure => simp [intOf]; omega
        · have hinb : inR (gi xs k) (1 - s) (s - 1) = false := inR_no hin
          have HF := Lib.hid (letters_false hlt (badLetter_yes (s := s) (.inr (by omega))))
          clear hz hin
          go_wp2_with (go_at_call 82; refine (l00In_any _ _ _ _).mono ?_; rintro e w' ⟨rfl, rfl⟩)
          go_ret
          exact ⟨ret_bool HF.out.symm, rfl⟩
    · have HF := Lib.hid (letters_iff.2 fun j hj => HG.out j (by omega))
      go_wp2
      go_ret
      exact ⟨ret_bool HF.out.symm, rfl⟩
set_option maxHeartbeats 800000 in
theorem impl_ValidBraid_any (s : Int) (v : Value) (xs : List Int) (B : Nat) (w : World) (h : Sl w B v xs) (hB : B ≤ w.heap.size) :
    Calls Try.prog 58 #[.agg #[.int .i64 s, v]] w fun e w' => e = .returned (.bool (okBr s xs)) ∧ Below w.heap.size w w' := by
  obtain ⟨A, c, rfl, hl, hm, ha⟩ := id h
  unfold maxLen at hm
  clear ha
  have h1 := h.below (al1 w (.cells #[.int .i64 s, .slice A xs.length c] 41)) hB
  by_cases hn : 0 ≤ s ∧ s ≤ 12
  · have hnb : inR s 0 12 = true := inR_yes hn.1 hn.2
    obtain ⟨hn0, hn1⟩ := hn
    by_cases hlen : xs.length ≤ 40
    · have hlI : (xs.length : Int) ≤ 40 := by omega
      have HE := Lib.hid (show okBr s xs = letters s xs by simp [okBr, hnb, hlen])
      go_enter Try.func58, Try.ntmps58
      go_wp2_with (go_at_call 77; refine (isStrands_any _ _).mono ?_; rintro e w' ⟨rfl, rfl⟩)
      refine (areLetters_any _ xs B _ _ h1 (by simp; omega) (by omega) (by omega)).mono ?_
      rintro e w1 ⟨rfl, hb⟩
      go_wp2_with fail
      go_ret
      exact ⟨ret_bool HE.out.symm, (al1 _ _).trans (hb.mono (by simp))⟩
    · have hlI : ¬ (xs.length : Int) ≤ 40 := by omega
      have HE := Lib.hid (show okBr s xs = false by simp [okBr, hlen])
      go_enter Try.func58, Try.ntmps58
      go_wp2_with (first | (go_at_call 77; refine (isStrands_any _ _).mono ?_; rintro e w' ⟨rfl, rfl⟩))
      go_ret
      exact ⟨ret_bool HE.out.symm, al1 _ _⟩
  · have hnb : inR s 0 12 = false := inR_no hn
    have HE := Lib.hid (show okBr s xs = false by simp only [okBr, hnb, Bool.false_and])
    clear hn
    go_enter Try.func58, Try.ntmps58
    go_wp2_with (first | (go_at_call 77; refine (isStrands_any _ _).mono ?_; rintro e w' ⟨rfl, rfl⟩))
    go_ret
    exact ⟨ret_bool HE.out.symm, al1 _ _⟩
set_option maxHeartbeats 800000 in
theorem l03Ok_any (s : Int) (v : Value) (xs : List Int) (B g : Nat) (w : World) (h : Sl w B v xs) (c0 : w.cell? ⟨g, 0, none⟩ = some (.int .i64 s)) (c1 : w.cell? ⟨g, 1, none⟩ = some v) :
    Calls Try.prog 56 #[.pointer (some ⟨g, 0, none⟩)] w fun e w' => e = .returned (.bool (okBr s xs)) ∧ ∃ n, w' = w.drewN n := by
  obtain ⟨A, c, rfl, hl, hm, ha⟩ := id h
  unfold maxLen at hm
  clear ha
  by_cases hn : 0 ≤ s ∧ s ≤ 12
  · have hnb : inR s 0 12 = true := inR_yes hn.1 hn.2
    obtain ⟨hn0, hn1⟩ := hn
    by_cases hlen : xs.length ≤ 40
    · have hlI : (xs.length : Int) ≤ 40 := by omega
      have HE := Lib.hid (show okBr s xs = letters s xs by simp [okBr, hnb, hlen])
      go_enter Try.func56, Try.ntmps56
      go_wp2
      go_quiet (first | (go_at_call 82; first | exact quiet_same_on (is_same hnb (l00In_any _ _ _ _)) | exact quiet_same_at (is_same hnb (l00In_any _ _ _ _)) | exact quiet_same (is_same hnb (l00In_any _ _ _ _))) | (go_at_call 90; first | exact quiet_same_on (l03Letters_any _ xs B _ _ (h.drewN _) (by omega) (by omega)) | exact quiet_same_at (l03Letters_any _ xs B _ _ (h.drewN _) (by omega) (by omega))))
      go_wp2
      go_ret
      exact ⟨ret_bool HE.out.symm, _, rfl⟩
    · have hlI : decide ((xs.length : Int) ≤ 40) = false := by simp; omega
      have HE := Lib.hid (show okBr s xs = false by simp [okBr, hlen])
      go_enter Try.func56, Try.ntmps56
      go_wp2
      go_quiet (first | (go_at_call 82; first | exact quiet_same_on (is_same hnb (l00In_any _ _ _ _)) | exact quiet_same_at (is_same hnb (l00In_any _ _ _ _)) | exact quiet_same (is_same hnb (l00In_any _ _ _ _))))
      go_wp2
      go_ret
      exact ⟨ret_bool HE.out.symm, _, rfl⟩
  · have hnb : inR s 0 12 = false := inR_no hn
    have HE := Lib.hid (show okBr s xs = false by simp only [okBr, hnb, Bool.false_and])
    clear hn
    go_enter Try.func56, Try.ntmps56
    go_wp2
    go_quiet (first | (go_at_call 82; first | exact quiet_same_on (is_same hnb (l00In_any _ _ _ _)) | exact quiet_same_at (is_same hnb (l00In_any _ _ _ _)) | exact quiet_same (is_same hnb (l00In_any _ _ _ _))))
    go_wp2
    go_ret
    exact ⟨ret_bool HE.out.symm, _, rfl⟩
end Go.Proofs.Ytcoocjdkppdlmaa
