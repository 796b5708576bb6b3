/-
  Contracts: the checks of letters and free words, of the program and of the reference.
-/
import Derived.Test.YtcoocjdkppdlmaaInts
import Derived.Test.YtcoocjdkppdlmaaFns
import Derived.Test.YtcoocjdkppdlmaaSmall
namespace Go.Proofs.Ytcoocjdkppdlmaa
set_option maxRecDepth 10000
open Go.RowKit

set_option maxHeartbeats 400000 in
/-- The function value in areLetters: is k no letter on s strands (s: in the captured cell p)? -/
theorem areLetters1_any (k s : Int) (p : Addr) (w : World) (hc : w.cell? p = some (.int .i64 s)) (h0 : 0 ≤ s) (h1 : s ≤ 13) :
    Calls Try.prog 100 #[.int .i64 k, .pointer (some p)] w fun e w' => e = .returned (.bool (badLetter s k)) ∧ w = w' := by
  by_cases hk : k = 0
  · have hkb : (k == 0) = true := by simp [hk]
    have hb : badLetter s k = true := badLetter_yes (.inl hk)
    have HB := Lib.hid hb
    clear hk hb
    go_enter Try.func100, Try.ntmps100
    go_wp2
    go_ret
    exact ⟨ret_bool HB.out.symm, rfl⟩
  · have hkb : (k == 0) = false := by simp [hk]
    have hb := badLetter_not (s := s) hk
    have HB := Lib.hid hb
    clear hk hb
    go_enter Try.func100, Try.ntmps100
    go_wp2_with (go_at_call 98; refine (within_any _ _ _ _).mono ?_; rintro e w' ⟨rfl, rfl⟩)
    go_ret
    exact ⟨ret_bool HB.out.symm, rfl⟩
set_option maxHeartbeats 400000 in
theorem indexLetters_any (v : Value) (xs : List Int) (B : Nat) (s : Int) (p : Addr) (w : World) (h : Sl w B v xs) (hc : w.cell? p = some (.int .i64 s)) (h0 : 0 ≤ s) (h1 : s ≤ 13) :
    Calls Try.prog 107 #[v, .func (.func 100) #[] #[.pointer (some p)]] w fun e w' =>
      (∃ r : Int, e = .returned (.int .i64 r) ∧ -1 ≤ r ∧ letters s xs = decide (r < 0)) ∧ w = w' := by
  obtain ⟨A, c, rfl, hl, hm, _, hcells⟩ := h
  unfold maxLen at hm
  have HC := Lib.hid hcells
  clear hcells
  go_enter Try.func107, Try.ntmps107
  go_wp2
  go_loop [8] (fun i => ∃ k : Nat, k ≤ xs.length ∧ i = .int .i64 k ∧ ∀ j, j < k → badLetter s (gi xs j) = false) (fun i => xs.length - (intOf i).toNat)
  case atStart => exact ⟨0, Nat.zero_le _, rfl, fun j hj => absurd hj (Nat.not_lt_zero _)⟩
  case round =>
    obtain ⟨k, hk, rfl, hgood⟩ := hrel
    have HG := Lib.hid hgood
    clear hgood
    by_cases hlt : k < xs.length
    · obtain ⟨b, off, rfl, hbB, hcell⟩ := HC.out (by omega)
      have q1 := hcell k hlt
      clear hcell
      cases hbad : badLetter s (gi xs k)
      · go_wp2_with (go_at_call 100; refine (areLetters1_any _ s p _ hc h0 h1).mono ?_; rintro e w' ⟨rfl, rfl⟩)
        go_round
        case rel =>
          refine ⟨k + 1, by omega, by go_num, fun j hj => ?_⟩
          by_cases hjk : j < k
          · exact HG.out j hjk
          · obtain rfl : j = k := by omega
            exact hbad
        case measure => simp [intOf]; omega
      · have HF := Lib.hid (letters_false hlt hbad)
        go_wp2_with (go_at_call 100; refine (areLetters1_any _ s p _ hc h0 h1).mono ?_; rintro e w' ⟨rfl, rfl⟩)
        go_ret
        exact ⟨⟨k, rfl, by omega, by rw [HF.out]; simp⟩, rfl⟩
    · go_wp2
      go_ret
      exact ⟨⟨-1, rfl, by omega, by rw [letters_iff.2 fun j hj => HG.out j (by omega)]; simp⟩, rfl⟩
set_option maxHeartbeats 400000 in
theorem containsLetters_any (v : Value) (xs : List Int) (B : Nat) (s : Int) (p : Addr) (w : World) (h : Sl w B v xs) (hc : w.cell? p = some (.int .i64 s)) (h0 : 0 ≤ s) (h1 : s ≤ 13) :
    Calls Try.prog 99 #[v, .func (.func 100) #[] #[.pointer (some p)]] w fun e w' => e = .returned (.bool (!letters s xs)) ∧ w = w' := by
  go_enter Try.func99, Try.ntmps99
  go_wp2_with (go_at_call 107; refine (indexLetters_any _ xs B s p _ h hc h0 h1).mono ?_; rintro e w' ⟨⟨r, rfl, hr, hlet⟩, rfl⟩; have HL := Lib.hid hlet; clear hlet)
  go_ret
  refine ⟨ret_bool ?_, rfl⟩
  rw [HL.out]
  by_cases hr0 : r < 0 <;> simp [hr0]
  omega
set_option maxHeartbeats 400000 in
theorem areLetters_any (v : Value) (xs : List Int) (B : Nat) (s : Int) (w : World) (h : Sl w B v xs) (hB : B ≤ w.heap.size) (h0 : 0 ≤ s) (h1 : s ≤ 13) :
    Calls Try.prog 79 #[.int .i64 s, v] w fun e w' => e = .returned (.bool (letters s xs)) ∧ Below w.heap.size w w' := by
  have h' : Sl (w.alloc (.cells #[.int .i64 s] 2)) B v xs := h.below ((Below.refl _ _).alloc (Nat.le_refl _) _) hB
  go_enter Try.func79, Try.ntmps79
  go_wp2_with (go_at_call 99; refine (containsLetters_any _ xs B s _ _ h' (by simp) h0 h1).mono ?_; rintro e w' ⟨rfl, rfl⟩)
  go_ret
  exact ⟨ret_bool (by simp), (Below.refl _ _).alloc (Nat.le_refl _) _⟩
set_option maxHeartbeats 400000 in
theorem impl_ValidFree_any (v : Value) (xs : List Int) (B : Nat) (n : Int) (w : World) (h : Sl w B v xs) (hB : B ≤ w.heap.size) :
    Calls Try.prog 51 #[.int .i64 n, v] w fun e w' => e = .returned (.bool (okFree n xs)) ∧ Below w.heap.size w w' := by
  obtain ⟨A, c, rfl, hl, hm, ha⟩ := id h
  unfold maxLen at hm
  clear ha
  by_cases hn : 0 ≤ n ∧ n ≤ 12
  · have hnb : inR n 0 12 = true := inR_yes hn.1 hn.2
    obtain ⟨hn0, hn1⟩ := hn
    by_cases hlen : xs.length ≤ 20000
    · have hlI : (xs.length : Int) ≤ 20000 := by omega
      have he : okFree n xs = letters (n + 1) xs := by simp [okFree, hnb, hlen]
      have HE := Lib.hid he
      clear he
      go_enter Try.func51, Try.ntmps51
      go_wp2_with (first | (go_at_call 77; refine (isStrands_any _ _).mono ?_; rintro e w' ⟨rfl, rfl⟩) | (go_at_call 79; refine (areLetters_any _ xs B _ _ h hB (by omega) (by omega)).mono ?_; rintro e w1 ⟨rfl, hb⟩))
      go_ret
      exact ⟨ret_bool HE.out.symm, hb⟩
    · have hlI : ¬ (xs.length : Int) ≤ 20000 := by omega
      have he : okFree n xs = false := by simp [okFree, hlen]
      have HE := Lib.hid he
      clear he
      go_enter Try.func51, Try.ntmps51
      go_wp2_with (first | (go_at_call 77; refine (isStrands_any _ _).mono ?_; rintro e w' ⟨rfl, rfl⟩))
      go_ret
      exact ⟨ret_bool HE.out.symm, Below.refl _ _⟩
  · have hnb : inR n 0 12 = false := inR_no hn
    have he : okFree n xs = false := by simp only [okFree, hnb, Bool.false_and]
    have HE := Lib.hid he
    clear he hn
    go_enter Try.func51, Try.ntmps51
    go_wp2_with (first | (go_at_call 77; refine (isStrands_any _ _).mono ?_; rintro e w' ⟨rfl, rfl⟩))
    go_ret
    exact ⟨ret_bool HE.out.symm, Below.refl _ _⟩
set_option maxHeartbeats 400000 in
theorem l05Letters_any (v : Value) (xs : List Int) (B : Nat) (n : Int) (w : World) (h : Sl w B v xs) (h0 : 0 ≤ n) (h1 : n ≤ 12) :
    Calls Try.prog 83 #[.int .i64 n, v] w fun e w' => e = .returned (.bool (letters (n + 1) xs)) ∧ w = w' := by
  obtain ⟨A, c, rfl, hl, hm, _, hcells⟩ := h
  unfold maxLen at hm
  have HC := Lib.hid hcells
  clear hcells
  go_enter Try.func83, Try.ntmps83
  go_wp2
  go_loop [5] (fun i => ∃ k : Nat, k ≤ xs.length ∧ i = .int .i64 k ∧ ∀ j, j < k → badLetter (n + 1) (gi xs j) = false) (fun i => xs.length - (intOf i).toNat)
  case atStart => exact ⟨0, Nat.zero_le _, rfl, fun j hj => absurd hj (Nat.not_lt_zero _)⟩
  case round =>
    obtain ⟨k, hk, rfl, hgood⟩ := hrel
    have HG := Lib.hid hgood
    clear hgood
    by_cases hlt : k < xs.length
    · obtain ⟨b, off, rfl, hbB, hcell⟩ := HC.out (by omega)
      have q1 := hcell k hlt
      clear hcell
      by_cases hz : gi xs k = 0
      · have HF := Lib.hid (letters_false hlt (badLetter_yes (s := n + 1) (.inl hz)))
        have hzb : (gi xs k == 0) = true := by simp [hz]
        clear hz
        go_wp2
        go_ret
        exact ⟨ret_bool HF.out.symm, rfl⟩
      · have hzb : (gi xs k == 0) = false := by simp [hz]
        by_cases hin : -n ≤ gi xs k ∧ gi xs k ≤ n
        · have hinb : inR (gi xs k) (-n) n = true := inR_yes hin.1 hin.2
          have HN := Lib.hid (badLetter_no (s := n + 1) hz (by omega) (by omega))
          clear hz hin
          go_wp2_with (go_at_call 82; refine (l00In_any _ _ _ _).mono ?_; rintro e w' ⟨rfl, rfl⟩)
          go_round
          case rel =>
            refine ⟨k + 1, by omega, by go_num, fun j hj => ?_⟩
            by_cases hjk : j < k
            · exact HG.out j hjk
            · obtain rfl : j = k := by omega
              exact HN.out
          case measure => simp [intOf]; omega
        · have hinb : inR (gi xs k) (-n) n = false := inR_no hin
          have HF := Lib.hid (letters_false hlt (badLetter_yes (s := n + 1) (.inr (by omega))))
          clear hz hin
          go_wp2_with (go_at_call 82; refine (l00In_any _ _ _ _).mono ?_; rintro e w' ⟨rfl, rfl⟩)
          go_ret
          exact ⟨ret_bool HF.out.symm, rfl⟩
    · have HF := Lib.hid (letters_iff.2 fun j hj => HG.out j (by omega))
      go_wp2
      go_ret
      exact ⟨ret_bool HF.out.symm, rfl⟩
set_option maxHeartbeats 400000 in
theorem l05Ok_any (v : Value) (xs : List Int) (B : Nat) (n : Int) (w : World) (h : Sl w B v xs) :
    Calls Try.prog 48 #[.int .i64 n, v] w fun e w' => e = .returned (.bool (okFree n xs)) ∧ w = w' := by
  obtain ⟨A, c, rfl, hl, hm, ha⟩ := id h
  unfold maxLen at hm
  clear ha
  by_cases hn : 0 ≤ n ∧ n ≤ 12
  · have hnb : inR n 0 12 = true := inR_yes hn.1 hn.2
    obtain ⟨hn0, hn1⟩ := hn
    by_cases hlen : xs.length ≤ 20000
    · have hlI : (xs.length : Int) ≤ 20000 := by omega
      have he : okFree n xs = letters (n + 1) xs := by simp [okFree, hnb, hlen]
      have HE := Lib.hid he
      clear he
      go_enter Try.func48, Try.ntmps48
      go_wp2_with (first | (go_at_call 82; refine (l00In_any _ _ _ _).mono ?_; rintro e w' ⟨rfl, rfl⟩) | (go_at_call 83; refine (l05Letters_any _ xs B _ _ h (by omega) (by omega)).mono ?_; rintro e w1 ⟨rfl, rfl⟩))
      go_ret
      exact ⟨ret_bool HE.out.symm, rfl⟩
    · have hlI : ¬ (xs.length : Int) ≤ 20000 := by omega
      have he : okFree n xs = false := by simp [okFree, hlen]
      have HE := Lib.hid he
      clear he
      go_enter Try.func48, Try.ntmps48
      go_wp2_with (first | (go_at_call 82; refine (l00In_any _ _ _ _).mono ?_; rintro e w' ⟨rfl, rfl⟩))
      go_ret
      exact ⟨ret_bool HE.out.symm, rfl⟩
  · have hnb : inR n 0 12 = false := inR_no hn
    have he : okFree n xs = false := by simp only [okFree, hnb, Bool.false_and]
    have HE := Lib.hid he
    clear he hn
    go_enter Try.func48, Try.ntmps48
    go_wp2_with (first | (go_at_call 82; refine (l00In_any _ _ _ _).mono ?_; rintro e w' ⟨rfl, rfl⟩))
    go_ret
    exact ⟨ret_bool HE.out.symm, rfl⟩
set_option maxHeartbeats 400000 in
theorem spec_ValidFree_any (v : Value) (xs : List Int) (B : Nat) (n : Int) (w : World) (h : Sl w B v xs) :
    Calls Try.prog 37 #[.int .i64 n, v] w fun e w' => e = .returned (.bool (okFree n xs)) ∧ w = w' := by
  go_enter Try.func37, Try.ntmps37
  go_wp2_with (go_at_call 48; refine (l05Ok_any _ xs B _ _ h).mono ?_; rintro e w' ⟨rfl, rfl⟩)
  go_ret
  exact ⟨rfl, rfl⟩
end Go.Proofs.Ytcoocjdkppdlmaa
