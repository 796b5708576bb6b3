/-
  Handles: plain functions on lists of numbers (where a handle begins, the first handle, the word behind a reduction, the reduction of all). No program in sight.
-/
import Derived.Test.YtcoocjdkppdlmaaMain
namespace Go.Proofs.Ytcoocjdkppdlmaa
set_option maxRecDepth 10000

/-- Where the handle begins that ends with the letter t, seen from place n downwards; -1 if there is none. -/
def hSeek (xs : List Int) (t : Int) : Nat → Int
  | 0 => -1
  | n + 1 => if ab (gi xs n) = ab t then (if gi xs n = t then -1 else (n : Int)) else if ab (gi xs n) = ab t - 1 then -1 else hSeek xs t n
def hTo (xs : List Int) (k : Nat) : Int := hSeek xs (gi xs k) k
theorem hSeek_bd (xs : List Int) (t : Int) (n : Nat) : -1 ≤ hSeek xs t n ∧ hSeek xs t n < n := by
  induction n with
  | zero => simp [hSeek]
  | succ n ih =>
    unfold hSeek
    split
    · split <;> omega
    · split <;> omega
theorem hTo_bd (xs : List Int) (k : Nat) : -1 ≤ hTo xs k ∧ hTo xs k < k := hSeek_bd _ _ _
theorem hSeek_iff {xs : List Int} {t : Int} {n f : Nat} :
    hSeek xs t n = f ↔ f < n ∧ ab (gi xs f) = ab t ∧ gi xs f ≠ t ∧ ∀ i, f < i → i < n → ab (gi xs i) ≠ ab t ∧ ab (gi xs i) ≠ ab t - 1 := by
  induction n with
  | zero => simp [hSeek]
  | succ n ih =>
    unfold hSeek
    by_cases h1 : ab (gi xs n) = ab t
    · rw [if_pos h1]
      by_cases h2 : gi xs n = t
      · rw [if_pos h2]
        refine ⟨fun h => by omega, fun ⟨a, b, c, d⟩ => ?_⟩
        rcases Nat.lt_or_ge f n with hf | hf
        · exact absurd h1 (d n hf (by omega)).1
        · obtain rfl : f = n := by omega
          exact absurd h2 c
      · rw [if_neg h2]
        refine ⟨fun h => ?_, fun ⟨a, b, c, d⟩ => ?_⟩
        · obtain rfl : n = f := by omega
          exact ⟨by omega, h1, h2, fun i _ _ => by omega⟩
        · rcases Nat.lt_or_ge f n with hf | hf
          · exact absurd h1 (d n hf (by omega)).1
          · omega
    · rw [if_neg h1]
      by_cases h2 : ab (gi xs n) = ab t - 1
      · rw [if_pos h2]
        refine ⟨fun h => by omega, fun ⟨a, b, c, d⟩ => ?_⟩
        rcases Nat.lt_or_ge f n with hf | hf
        · exact absurd h2 (d n hf (by omega)).2
        · obtain rfl : f = n := by omega
          exact absurd b h1
      · rw [if_neg h2, ih]
        refine ⟨fun ⟨a, b, c, d⟩ => ⟨by omega, b, c, fun i hi hn => ?_⟩, fun ⟨a, b, c, d⟩ => ?_⟩
        · rcases Nat.lt_or_ge i n with hf | hf
          · exact d i hi hf
          · obtain rfl : i = n := by omega
            exact ⟨h1, h2⟩
        · rcases Nat.lt_or_ge f n with hf | hf
          · exact ⟨hf, b, c, fun i hi hn => d i hi (by omega)⟩
          · obtain rfl : f = n := by omega
            exact absurd b h1
theorem ab_pos {x : Int} (h : x ≠ 0) : 0 < ab x := by unfold ab; omega
theorem ab_opp {x y : Int} (hy : y ≠ 0) : (ab x = ab y ∧ x ≠ y) ↔ x = -y := by unfold ab; omega
/-- The ends of a handle, as the reference asks for them. -/
def endsH (xs : List Int) (f t : Nat) : Bool := (gi xs f == -gi xs t) && (List.range (t - f - 1)).all fun i => (ab (gi xs (f + 1 + i)) != ab (gi xs t)) && (ab (gi xs (f + 1 + i)) != ab (gi xs t) - 1)
theorem endsH_iff {xs : List Int} {f t : Nat} : endsH xs f t = true ↔ gi xs f = -gi xs t ∧ ∀ i, f < i → i < t → ab (gi xs i) ≠ ab (gi xs t) ∧ ab (gi xs i) ≠ ab (gi xs t) - 1 := by
  simp only [endsH, Bool.and_eq_true, beq_iff_eq, List.all_eq_true, List.mem_range, bne_iff_ne, ne_eq]
  refine ⟨fun ⟨a, b⟩ => ⟨a, fun i h1 h2 => ?_⟩, fun ⟨a, b⟩ => ⟨a, fun i h => b _ (by omega) (by omega)⟩⟩
  have := b (i - (f + 1)) (by omega)
  rwa [show f + 1 + (i - (f + 1)) = i by omega] at this
theorem ends_to {xs : List Int} {f t : Nat} (h0 : gi xs t ≠ 0) (hlt : f < t) : endsH xs f t = decide (hTo xs t = f) := by
  rw [Bool.eq_iff_iff, endsH_iff, decide_eq_true_eq, hTo, hSeek_iff, ← ab_opp h0]
  exact ⟨fun ⟨⟨a, b⟩, c⟩ => ⟨hlt, a, b, c⟩, fun ⟨_, a, b, c⟩ => ⟨⟨a, b⟩, c⟩⟩
/-- Whether (f, t) is a handle. -/
def isH (xs : List Int) (f t : Int) : Bool := inR t 0 (xs.length - 1) && decide (0 ≤ f) && decide (hTo xs t.toNat = f)

/-- Where the first handle ends. -/
def firstT (xs : List Int) : Option Nat := (List.range xs.length).find? fun k => decide (0 ≤ hTo xs k)
theorem firstT_some {xs : List Int} {k : Nat} (hk : k < xs.length) (h : ∀ j, j < k → hTo xs j < 0) (h1 : 0 ≤ hTo xs k) : firstT xs = some k := by
  unfold firstT
  rw [List.find?_range_eq_some]
  refine ⟨by simpa using h1, by simpa using hk, fun j hj => ?_⟩
  have := h j hj
  simp; omega
theorem firstT_none {xs : List Int} (h : ∀ j, j < xs.length → hTo xs j < 0) : firstT xs = none := by
  unfold firstT
  rw [List.find?_range_eq_none]
  intro j hj
  have := h j hj
  simp; omega
theorem firstT_is {xs : List Int} {k : Nat} (e : firstT xs = some k) : k < xs.length ∧ 0 ≤ hTo xs k ∧ ∀ j, j < k → hTo xs j < 0 := by
  unfold firstT at e
  rw [List.find?_range_eq_some] at e
  obtain ⟨a, b, c⟩ := e
  refine ⟨by simpa using b, by simpa using a, fun j hj => ?_⟩
  have := c j hj
  simp at this; omega
theorem firstT_no {xs : List Int} (e : firstT xs = none) : ∀ j, j < xs.length → hTo xs j < 0 := by
  unfold firstT at e
  rw [List.find?_range_eq_none] at e
  intro j hj
  have := e j hj
  simp at this; omega
def hF (xs : List Int) : Int := match firstT xs with | none => 0 | some k => hTo xs k
def hT (xs : List Int) : Int := match firstT xs with | none => 0 | some k => k
def hOk (xs : List Int) : Bool := (firstT xs).isSome

/-- The word behind the reduction of a handle. -/
def sg (x : Int) : Int := if 0 < x then 1 else -1
theorem tdiv_ab {x : Int} (h : x ≠ 0) : x.tdiv (ab x) = sg x := by
  unfold sg ab
  split
  · rw [show ((x.natAbs : Nat) : Int) = x by omega, Int.tdiv_self h]
  · rw [show ((x.natAbs : Nat) : Int) = -x by omega, Int.tdiv_neg, Int.tdiv_self h]
def hSub (j e k : Int) : List Int := if ab k = j + 1 then [-e * (j + 1), sg k * j, e * (j + 1)] else [k]
def hMid (xs : List Int) (f t : Nat) : List Int := (xs.drop (f + 1)).take (t - f - 1)
def hRed (xs : List Int) (f t : Nat) : List Int := xs.take f ++ (hMid xs f t).flatMap (hSub (ab (gi xs f)) (sg (gi xs f))) ++ xs.drop (t + 1)
theorem hSub_len (j e k : Int) : (hSub j e k).length ≤ 3 := by unfold hSub; split <;> simp
theorem flat_len (j e : Int) (l : List Int) : (l.flatMap (hSub j e)).length ≤ 3 * l.length := by
  induction l with
  | nil => simp
  | cons a l ih => rw [List.flatMap_cons, List.length_append, List.length_cons]; have := hSub_len j e a; omega
theorem hRed_len {xs : List Int} {f t : Nat} (hf : f < t) (ht : t < xs.length) : (hRed xs f t).length ≤ 3 * xs.length := by
  have h := flat_len (ab (gi xs f)) (sg (gi xs f)) (hMid xs f t)
  have h2 : (hMid xs f t).length = t - f - 1 := by simp [hMid]; omega
  simp only [hRed, List.length_append, List.length_take, List.length_drop]
  omega
/-- Letters of braids on twelve strands. -/
def Lt (xs : List Int) : Prop := ∀ x ∈ xs, x ≠ 0 ∧ -11 ≤ x ∧ x ≤ 11
theorem sg_cases (x : Int) : sg x = 1 ∨ sg x = -1 := by unfold sg; split <;> simp
theorem hSub_lt {j e k : Int} (h1 : 1 ≤ j) (h2 : j ≤ 11) (he : e = 1 ∨ e = -1) (hk : k ≠ 0 ∧ -11 ≤ k ∧ k ≤ 11) : Lt (hSub j e k) := by
  unfold hSub
  split
  · rename_i h
    have hj : j + 1 ≤ 11 := by rw [← h]; unfold ab; omega
    intro x hx
    simp only [List.mem_cons, List.not_mem_nil, or_false] at hx
    rcases he with rfl | rfl <;> rcases sg_cases k with hd | hd <;> rw [hd] at hx <;> omega
  · intro x hx
    simp at hx; subst hx; exact hk
theorem hRed_lt {xs : List Int} {f t : Nat} (h : Lt xs) (hf : f < t) (ht : t < xs.length) : Lt (hRed xs f t) := by
  have hx := h _ (gi_mem (show f < xs.length by omega))
  intro x hxm
  simp only [hRed, List.mem_append, List.mem_flatMap] at hxm
  rcases hxm with (hxm | ⟨k, hk, hxm⟩) | hxm
  · exact h x (List.mem_of_mem_take hxm)
  · exact hSub_lt (by have := ab_pos hx.1; omega) (by unfold ab; omega) (sg_cases _) (h k (List.mem_of_mem_drop (List.mem_of_mem_take hk))) x hxm
  · exact h x (List.mem_of_mem_drop hxm)

/-- Where the handle begins that ends at place t. -/
def hFn (xs : List Int) (t : Nat) : Nat := (hTo xs t).toNat
/-- Reduction of first handles, at most b times; the word and how many times. -/
def hLoop : Nat → List Int → Option (List Int × Nat)
  | 0, xs => match firstT xs with | none => some (xs, 0) | some _ => none
  | b + 1, xs => match firstT xs with
    | none => some (xs, 0)
    | some t => if (hRed xs (hFn xs t) t).length ≤ 4000 then (hLoop b (hRed xs (hFn xs t) t)).map fun p => (p.1, p.2 + 1) else none
theorem hLoop_none {b : Nat} {xs : List Int} (h : firstT xs = none) : hLoop b xs = some (xs, 0) := by
  cases b <;> simp [hLoop, h]
theorem hLoop_zero {xs : List Int} {t : Nat} (h : firstT xs = some t) : hLoop 0 xs = none := by simp [hLoop, h]
theorem hLoop_long {b : Nat} {xs : List Int} {t : Nat} (h : firstT xs = some t) (h2 : ¬ (hRed xs (hFn xs t) t).length ≤ 4000) : hLoop b xs = none := by
  cases b <;> simp [hLoop, h, h2]
theorem hLoop_on {b : Nat} {xs : List Int} {t : Nat} (h : firstT xs = some t) (h2 : (hRed xs (hFn xs t) t).length ≤ 4000) :
    hLoop (b + 1) xs = (hLoop b (hRed xs (hFn xs t) t)).map fun p => (p.1, p.2 + 1) := by simp [hLoop, h, h2]
theorem hLoop_len {b : Nat} {xs : List Int} {p : List Int × Nat} (h : hLoop b xs = some p) (hl : xs.length ≤ 4000) : p.1.length ≤ 4000 ∧ p.2 ≤ b := by
  induction b generalizing xs p with
  | zero =>
    cases hf : firstT xs with
    | none => rw [hLoop_none hf] at h; cases h; exact ⟨hl, Nat.le_refl _⟩
    | some t => rw [hLoop_zero hf] at h; cases h
  | succ b ih =>
    cases hf : firstT xs with
    | none => rw [hLoop_none hf] at h; cases h; exact ⟨hl, Nat.zero_le _⟩
    | some t =>
      by_cases h2 : (hRed xs (hFn xs t) t).length ≤ 4000
      · rw [hLoop_on hf h2] at h
        cases hq : hLoop b (hRed xs (hFn xs t) t) with
        | none => rw [hq] at h; cases h
        | some q =>
          rw [hq] at h
          cases h
          have := ih hq h2
          exact ⟨this.1, by simp only; omega⟩
      · rw [hLoop_long hf h2] at h; cases h
def formOf (r : Option (List Int × Nat)) : List Int × Int × Int := match r with | none => ([], 0, 5) | some p => (p.1, p.2, 0)
/-- The word without handles, the steps and the code. -/
def hForm (xs : List Int) (b : Int) : List Int × Int × Int := if inR b 0 5000 = true then formOf (hLoop b.toNat xs) else ([], 0, 2)
theorem hForm_len (xs : List Int) (b : Int) (hl : xs.length ≤ 4000) : (hForm xs b).1.length ≤ 4000 := by
  unfold hForm
  split
  · cases h : hLoop b.toNat xs with
    | none => simp [formOf]
    | some p => exact (hLoop_len h hl).1
  · simp
end Go.Proofs.Ytcoocjdkppdlmaa
