/-
  The main letter of a braid word: the plain law and the contracts.
-/
import Derived.Test.YtcinnbkhnonijaaBrOk
namespace Go.Proofs.Ytcinnbkhnonijaa
set_option maxRecDepth 10000
open Go.RowKit

def ab (x : Int) : Int := x.natAbs
def mainStep (m x : Int) : Int := if m = 0 ∨ ab x < ab m then x else m
def mainL (xs : List Int) : Int := xs.foldl mainStep 0
def pureL (xs : List Int) : Bool := !xs.isEmpty && xs.all fun y => y != -mainL xs
/-- The value that is told: the main letter, or 0. -/
def mainV (xs : List Int) : Int := if pureL xs = true then mainL xs else 0
theorem mainL_append (p : List Int) (x : Int) : mainL (p ++ [x]) = mainStep (mainL p) x := by simp [mainL]
theorem mainL_min {p : List Int} (h0 : ∀ x ∈ p, x ≠ 0) : (p = [] ∧ mainL p = 0) ∨ (mainL p ≠ 0 ∧ mainL p ∈ p ∧ ∀ x ∈ p, ab (mainL p) ≤ ab x) := by
  suffices h : ∀ (n : Nat) (p : List Int), p.length = n → (∀ x ∈ p, x ≠ 0) → (p = [] ∧ mainL p = 0) ∨ (mainL p ≠ 0 ∧ mainL p ∈ p ∧ ∀ x ∈ p, ab (mainL p) ≤ ab x) from h _ p rfl h0
  intro n
  induction n with
  | zero => intro p hp _; left; rw [List.length_eq_zero_iff.1 hp]; exact ⟨rfl, rfl⟩
  | succ n ih =>
    intro p hp h0
    right
    obtain ⟨q, x, rfl⟩ : ∃ q x, p = q ++ [x] := ⟨p.dropLast, p.getLast (by intro e; simp [e] at hp), (List.dropLast_concat_getLast _).symm⟩
    have hx := h0 x (by simp)
    have hq : q.length = n := by simpa using hp
    rw [mainL_append]
    unfold mainStep
    rcases ih q hq (fun y hy => h0 y (by simp [hy])) with ⟨e, h⟩ | ⟨h1, h2, h3⟩
    · rw [if_pos (.inl h)]
      refine ⟨hx, by simp, fun y hy => ?_⟩
      rw [e] at hy
      simp at hy
      rw [hy]; exact Int.le_refl _
    · split
      · rename_i hc
        have hc : ab x < ab (mainL q) := by rcases hc with hc | hc; exact absurd hc h1; exact hc
        refine ⟨hx, by simp, fun y hy => ?_⟩
        rw [List.mem_append] at hy
        rcases hy with hy | hy
        · have := h3 y hy; omega
        · simp at hy; rw [hy]; exact Int.le_refl _
      · rename_i hc
        refine ⟨h1, by simp [h2], fun y hy => ?_⟩
        rw [List.mem_append] at hy
        rcases hy with hy | hy
        · exact h3 y hy
        · simp at hy; rw [hy]; omega
theorem pureL_new {p : List Int} {x : Int} (h0 : ∀ y ∈ p, y ≠ 0) (hx : x ≠ 0) (hc : mainL p = 0 ∨ ab x < ab (mainL p)) : pureL (p ++ [x]) = true := by
  have hm : mainL (p ++ [x]) = x := by rw [mainL_append, mainStep, if_pos hc]
  simp only [pureL, hm, Bool.and_eq_true, List.all_eq_true, bne_iff_ne, ne_eq]
  refine ⟨by simp, fun y hy e => ?_⟩
  rw [List.mem_append] at hy
  rcases hy with hy | hy
  · rcases mainL_min h0 with ⟨e1, _⟩ | ⟨h1, _, h3⟩
    · rw [e1] at hy; cases hy
    · have := h3 y hy
      rcases hc with hc | hc
      · exact h1 hc
      · subst e; unfold ab at *; omega
  · simp at hy; omega
theorem pureL_mixed {p : List Int} {x : Int} (hc : ¬ (mainL p = 0 ∨ ab x < ab (mainL p))) (he : x = -mainL p) : pureL (p ++ [x]) = false := by
  have hm : mainL (p ++ [x]) = mainL p := by rw [mainL_append, mainStep, if_neg hc]
  unfold pureL
  rw [hm]
  have : ((p ++ [x]).all fun y => y != -mainL p) = false := by rw [List.all_append]; simp [← he]
  rw [this]; simp
theorem pureL_same {p : List Int} {x : Int} (hc : ¬ (mainL p = 0 ∨ ab x < ab (mainL p))) (he : ¬ x = -mainL p) : pureL (p ++ [x]) = pureL p := by
  have hm : mainL (p ++ [x]) = mainL p := by rw [mainL_append, mainStep, if_neg hc]
  have hp : p ≠ [] := by intro e; apply hc; left; rw [e]; rfl
  have hx : (x != -mainL p) = true := by simpa using he
  unfold pureL
  rw [hm, List.all_append]
  simp only [List.all_cons, List.all_nil, hx, Bool.and_true]
  cases p with
  | nil => exact absurd rfl hp
  | cons a l => rfl
set_option maxHeartbeats 400000 in
theorem size_any (x : Int) (w : World) (h1 : -1000 ≤ x) (h2 : x ≤ 1000) : Calls Try.prog 64 #[.int .i64 x] w fun e w' => e = .returned (.int .i64 (ab x)) ∧ w = w' := by
  go_enter Try.func64, Try.ntmps64
  go_wp2
  all_goals (go_ret; exact ⟨ret_int (by unfold ab; omega), rfl⟩)
set_option maxHeartbeats 400000 in
theorem l03Abs_any (x : Int) (w : World) (h1 : -1000 ≤ x) (h2 : x ≤ 1000) : Calls Try.prog 61 #[.int .i64 x] w fun e w' => e = .returned (.int .i64 (ab x)) ∧ w = w' := by
  go_enter Try.func61, Try.ntmps61
  go_wp2
  all_goals (go_ret; exact ⟨ret_int (by unfold ab; omega), rfl⟩)
set_option maxHeartbeats 1600000 in
theorem mainLetter_any (v : Value) (xs : List Int) (B : Nat) (w : World) (h : Sl w B v xs) (hbd : ∀ x ∈ xs, x ≠ 0 ∧ -11 ≤ x ∧ x ≤ 11) :
    Calls Try.prog 47 #[v] w fun e w' => e = .returned (.tuple #[.int .i64 (mainV xs), .bool (pureL xs)]) ∧ w = w' := by
  obtain ⟨A, c, rfl, hl, hm, _, hcells⟩ := h
  unfold maxLen at hm
  have HC := Lib.hid hcells
  have HB := Lib.hid hbd
  clear hcells hbd
  go_enter Try.func47, Try.ntmps47
  go_wp2
  go_loop [4, 5, 10] (fun m b i => ∃ k : Nat, k ≤ xs.length ∧ i = .int .i64 k ∧ m = .int .i64 (mainL (xs.take k)) ∧ b = .bool (pureL (xs.take k))) (fun _ _ i => xs.length - (intOf i).toNat)
  case atStart => exact ⟨0, Nat.zero_le _, rfl, rfl, rfl⟩
  case round =>
    obtain ⟨k, hk, rfl, rfl, rfl⟩ := hrel
    by_cases hlt : k < xs.length
    · obtain ⟨b, off, rfl, hbB, hcell⟩ := HC.out (by omega)
      have q1 := hcell k hlt
      clear hcell
      have HT := Lib.hid (take_gi hlt)
      have hx := HB.out _ (gi_mem hlt)
      have hM := mainL_min (p := xs.take k) (fun x hx => (HB.out x (List.mem_of_mem_take hx)).1)
      have hMb : -1000 ≤ mainL (xs.take k) ∧ mainL (xs.take k) ≤ 1000 := by
        rcases hM with ⟨_, e⟩ | ⟨_, e, _⟩
        · rw [e]; omega
        · have := HB.out _ (List.mem_of_mem_take e); omega
      have HN := Lib.hid (fun hc => pureL_new (p := xs.take k) (x := gi xs k) (fun x hx => (HB.out x (List.mem_of_mem_take hx)).1) hx.1 hc)
      clear hM
      obtain ⟨hx0, hx1, hx2⟩ := hx
      obtain ⟨hM1, hM2⟩ := hMb
      have HM2 := Lib.hid (fun (hc : ¬ (mainL (xs.take k) = 0 ∨ ab (gi xs k) < ab (mainL (xs.take k)))) (he : gi xs k = -mainL (xs.take k)) => pureL_mixed hc he)
      have HS := Lib.hid (fun (hc : ¬ (mainL (xs.take k) = 0 ∨ ab (gi xs k) < ab (mainL (xs.take k)))) (he : ¬ gi xs k = -mainL (xs.take k)) => pureL_same hc he)
      have HL := Lib.hid (mainL_append (xs.take k) (gi xs k))
      generalize hP : pureL (xs.take k) = P at *
      generalize hMM : mainL (xs.take k) = M at *
      have HPP := Lib.hid hP
      have HMM := Lib.hid hMM
      clear hP hMM
      by_cases hc : M = 0 ∨ ab (gi xs k) < ab M
      · have HR := Lib.hid (show mainL (xs.take (k + 1)) = gi xs k by rw [HT.out, HL.out, mainStep, if_pos hc])
        have HR2 := Lib.hid (show pureL (xs.take (k + 1)) = true by rw [HT.out]; exact HN.out hc)
        by_cases hz : M = 0
        · have hzb : (M == 0) = true := by simp [hz]
          clear hc
          go_wp2
          go_round
          case rel => exact ⟨k + 1, by omega, by go_num, by rw [HR.out], by rw [HR2.out]⟩
          case measure => simp [intOf]; omega
        · have hlt2 : ab (gi xs k) < ab M := by rcases hc with hc | hc; exact absurd hc hz; exact hc
          have hzb : (M == 0) = false := by simp [hz]
          clear hc
          go_wp2_with (go_at_call 64; refine (size_any _ _ (by omega) (by omega)).mono ?_; rintro e w' ⟨rfl, rfl⟩)
          go_round
          case rel => exact ⟨k + 1, by omega, by go_num, by rw [HR.out], by rw [HR2.out]⟩
          case measure => simp [intOf]; omega
      · have HR := Lib.hid (show mainL (xs.take (k + 1)) = M by rw [HT.out, HL.out, mainStep, if_neg hc])
        have hz : ¬ M = 0 := fun e => hc (.inl e)
        have hlt2 : ¬ ab (gi xs k) < ab M := fun e => hc (.inr e)
        have hzb : (M == 0) = false := by simp [hz]
        have hlb : decide (ab (gi xs k) < ab M) = false := by simp [hlt2]
        by_cases he : gi xs k = -M
        · have HR2 := Lib.hid (show pureL (xs.take (k + 1)) = false by rw [HT.out]; exact HM2.out hc he)
          have heb : (gi xs k == -M) = true := by simp [he]
          clear hc he
          go_wp2_with (go_at_call 64; refine (size_any _ _ (by omega) (by omega)).mono ?_; rintro e w' ⟨rfl, rfl⟩)
          go_round
          case rel => exact ⟨k + 1, by omega, by go_num, by rw [HR.out], by rw [HR2.out]⟩
          case measure => simp [intOf]; omega
        · have HR2 := Lib.hid (show pureL (xs.take (k + 1)) = P by rw [HT.out]; exact HS.out hc he)
          have heb : (gi xs k == -M) = false := by simp [he]
          clear hc he
          go_wp2_with (go_at_call 64; refine (size_any _ _ (by omega) (by omega)).mono ?_; rintro e w' ⟨rfl, rfl⟩)
          go_round
          case rel => exact ⟨k + 1, by omega, by go_num, by rw [HR.out], by rw [HR2.out]⟩
          case measure => simp [intOf]; omega
    · obtain rfl : k = xs.length := by omega
      rw [List.take_length]
      cases hp : pureL xs
      · go_wp2
        go_ret2
        exact ⟨by simp [mainV, hp], rfl⟩
      · go_wp2
        go_ret2
        exact ⟨by simp [mainV, hp], rfl⟩
end Go.Proofs.Ytcinnbkhnonijaa
