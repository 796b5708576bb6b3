/-
  Contracts: the checks of letters and free words, of the program and of the reference.
-/
import Derived.Test.YtcinnbkhnonijaaInts
import Derived.Test.YtcinnbkhnonijaaFns
import Derived.Test.YtcinnbkhnonijaaSmall
namespace Go.Proofs.Ytcinnbkhnonijaa
set_option maxRecDepth 10000
open Go.RowKit

set_option maxHeartbeats 400000 in
/-- The function value in areLetters: is k no letter on s strands (s: in the captured cell p)? -/
theorem areLetters1_any (k s : Int) (p : Addr) (w : World) (hc : w.cell? p = some (.int .i64 s)) (h0 : 0 ≤ s) (h1 : s ≤ 13) :
    Calls Try.prog 68 #[.int .i64 k, .pointer (some p)] w fun e w' => e = .returned (.bool (badLetter s k)) ∧ w = w' := by
  by_cases hk : k = 0
  · have hkb : (k == 0) = true := by simp [hk]
    have hb : badLetter s k = true := badLetter_yes (.inl hk)
    have HB := Lib.hid hb
    clear hk hb
    go_enter Try.func68, Try.ntmps68
    go_wp2
    go_ret
    exact ⟨ret_bool HB.out.symm, rfl⟩
  · have hkb : (k == 0) = false := by simp [hk]
    have hb := badLetter_not (s := s) hk
    have HB := Lib.hid hb
    clear hk hb
    go_enter Try.func68, Try.ntmps68
    go_wp2_with (go_at_call 45; refine (within_any _ _ _ _).mono ?_; rintro e w' ⟨rfl, rfl⟩)
    go_ret
    exact ⟨ret_bool HB.out.symm, rfl⟩
set_option maxHeartbeats 400000 in
theorem indexLetters_any (v : Value) (xs : List Int) (B : Nat) (s : Int) (p : Addr) (w : World) (h : Sl w B v xs) (hc : w.cell? p = some (.int .i64 s)) (h0 : 0 ≤ s) (h1 : s ≤ 13) :
    Calls Try.prog 79 #[v, .func (.func 68) #[] #[.pointer (some p)]] w fun e w' =>
      (∃ r : Int, e = .returned (.int .i64 r) ∧ -1 ≤ r ∧ letters s xs = decide (r < 0)) ∧ w = w' := by
  obtain ⟨A, c, rfl, hl, hm, _, hcells⟩ := h
  unfold maxLen at hm
  have HC := Lib.hid hcells
  clear hcells
  go_enter Try.func79, Try.ntmps79
  go_wp2
  go_loop [8] (fun i => ∃ k : Nat, k ≤ xs.length ∧ i = .int .i64 k ∧ ∀ j, j < k → badLetter s (gi xs j) = false) (fun i => xs.length - (intOf i).toNat)
  case atStart => exact ⟨0, Nat.zero_le _, rfl, fun j hj => absurd hj (Nat.not_lt_zero _)⟩
  case round =>
    obtain ⟨k, hk, rfl, hgood⟩ := hrel
    have HG := Lib.hid hgood
    clear hgood
    by_cases hlt : k < xs.length
    · obtain ⟨b, off, rfl, hbB, hcell⟩ := HC.out (by omega)
      have q1 := hcell k hlt
      clear hcell
      cases hbad : badLetter s (gi xs k)
      · go_wp2_with (go_at_call 68; refine (areLetters1_any _ s p _ hc h0 h1).mono ?_; rintro e w' ⟨rfl, rfl⟩)
        go_round
        case rel =>
          refine ⟨k + 1, by omega, by go_num, fun j hj => ?_⟩
          by_cases hjk : j < k
          · exact HG.out j hjk
          · obtain rfl : j = k := by omega
            exact hbad
        case measure => simp [intOf]; omega
      · have HF := Lib.hid (letters_false hlt hbad)
        go_wp2_with (go_at_call 68; refine (areLetters1_any _ s p _ hc h0 h1).mono ?_; rintro e w' ⟨rfl, rfl⟩)
        go_ret
        exact ⟨⟨k, rfl, by omega, by rw [HF.out]; simp⟩, rfl⟩
    · go_wp2
      go_ret
      exact ⟨⟨-1, rfl, by omega, by rw [letters_iff.2 fun j hj => HG.out j (by omega)]; simp⟩, rfl⟩
set_option maxHeartbeats 400000 in
theorem containsLetters_any (v : Value) (xs : List Int) (B : Nat) (s : Int) (p : Addr) (w : World) (h : Sl w B v xs) (hc : w.cell? p = some (.int .i64 s)) (h0 : 0 ≤ s) (h1 : s ≤ 13) :
    Calls Try.prog 67 #[v, .func (.func 68) #[] #[.pointer (some p)]] w fun e w' => e = .returned (.bool (!letters s xs)) ∧ w = w' := by
  go_enter Try.func67, Try.ntmps67
  go_wp2_with (go_at_call 79; refine (indexLetters_any _ xs B s p _ h hc h0 h1).mono ?_; rintro e w' ⟨⟨r, rfl, hr, hlet⟩, rfl⟩; have HL := Lib.hid hlet; clear hlet)
  go_ret
  refine ⟨ret_bool ?_, rfl⟩
  rw [HL.out]
  by_cases hr0 : r < 0 <;> simp [hr0]
  omega
set_option maxHeartbeats 400000 in
theorem areLetters_any (v : Value) (xs : List Int) (B : Nat) (s : Int) (w : World) (h : Sl w B v xs) (hB : B ≤ w.heap.size) (h0 : 0 ≤ s) (h1 : s ≤ 13) :
    Calls Try.prog 53 #[.int .i64 s, v] w fun e w' => e = .returned (.bool (letters s xs)) ∧ Below w.heap.size w w' := by
  have h' : Sl (w.alloc (.cells #[.int .i64 s] 2)) B v xs := h.below ((Below.refl _ _).alloc (Nat.le_refl _) _) hB
  go_enter Try.func53, Try.ntmps53
  go_wp2_with (go_at_call 67; refine (containsLetters_any _ xs B s _ _ h' (by simp) h0 h1).mono ?_; rintro e w' ⟨rfl, rfl⟩)
  go_ret
  exact ⟨ret_bool (by simp), (Below.refl _ _).alloc (Nat.le_refl _) _⟩
end Go.Proofs.Ytcinnbkhnonijaa
