/-
  Numbers and needles read from a text: plain laws.
-/
import Derived.Test.YtgmppfhokfifgaaGreatDoorTxo
namespace Go.Proofs.YtgmppfhokfifgaaGreatDoor
set_option maxRecDepth 10000
open Go.RowKit Go.Sort

def valU (l : List UInt8) : Nat := l.foldl (fun a b => 10 * a + (b.toNat - 48)) 0
theorem valU_snoc (l : List UInt8) (b : UInt8) : valU (l ++ [b]) = 10 * valU l + (b.toNat - 48) := by simp [valU]
theorem dig_toNat {k : Nat} (h : k < 10) : (UInt8.ofNat (48 + k)).toNat = 48 + k := by
  rw [UInt8.toNat_ofNat']
  omega
theorem dig_all (u : Nat) : ∀ b ∈ Lib.decDigits u, 48 ≤ b.toNat ∧ b.toNat ≤ 57 := by
  induction u using Nat.strongRecOn with
  | _ u ih =>
    intro b hb
    by_cases h10 : u < 10
    · rw [Lib.decDigits_one h10] at hb
      simp only [List.mem_singleton] at hb
      subst hb
      rw [dig_toNat h10]; omega
    · rw [Lib.decDigits, dif_neg h10] at hb
      rcases List.mem_append.1 hb with q | q
      · exact ih (u / 10) (by omega) b q
      · simp only [List.mem_singleton] at q
        subst q
        rw [dig_toNat (Nat.mod_lt _ (by decide))]; omega
theorem valU_dec (u : Nat) : valU (Lib.decDigits u) = u := by
  induction u using Nat.strongRecOn with
  | _ u ih =>
    by_cases h10 : u < 10
    · rw [Lib.decDigits_one h10]
      simp only [valU, List.foldl_cons, List.foldl_nil]
      rw [dig_toNat h10]; omega
    · rw [Lib.decDigits, dif_neg h10, valU_snoc, ih (u / 10) (by omega), dig_toNat (Nat.mod_lt _ (by decide))]
      omega
theorem valU_lt : ∀ (n : Nat) (l : List UInt8), l.length = n → (∀ b ∈ l, b.toNat ≤ 57) → valU l < 10 ^ n
  | 0, l, h, _ => by
    rw [List.eq_nil_of_length_eq_zero h]
    decide
  | n + 1, l, h, hd => by
    obtain ⟨ys, y, rfl⟩ : ∃ ys y, l = ys ++ [y] := ⟨l.dropLast, l.getLast (by rintro rfl; simp at h), (List.dropLast_concat_getLast _).symm⟩
    have h1 := valU_lt n ys (by simpa using h) fun x hx => hd x (by simp [hx])
    have h2 := hd y (by simp)
    rw [valU_snoc, Nat.pow_succ]
    omega
def valS (s : ByteArray) : Int := match s.data.toList with
  | [] => 0
  | b :: r => if b = 45 then -(valU r : Int) else (valU (b :: r) : Int)
theorem dec_data (m : Int) : (dec m).data.toList = Lib.itoa m := rfl
/-- What the text of a number is. -/
theorem dec_form (m : Int) : (m < 0 ∧ (dec m).data.toList = 45 :: Lib.decDigits m.natAbs) ∨ (0 ≤ m ∧ (dec m).data.toList = Lib.decDigits m.natAbs) := by
  rw [dec_data]
  by_cases h : m < 0
  · exact .inl ⟨h, by unfold Lib.itoa; rw [if_pos h]⟩
  · refine .inr ⟨by omega, ?_⟩
    unfold Lib.itoa
    rw [if_neg h]
    congr 1
    omega
theorem dig_head (u : Nat) : ∃ b r, Lib.decDigits u = b :: r ∧ b ≠ 45 := by
  cases h : Lib.decDigits u with
  | nil =>
    have := Lib.decDigits_length u
    have h1 := Lib.nDigits_pos u
    rw [h] at this
    simp at this
    omega
  | cons b r =>
    refine ⟨b, r, rfl, fun e => ?_⟩
    have := (dig_all u b (by rw [h]; simp)).1
    subst e
    revert this
    decide
theorem valS_dec (m : Int) : valS (dec m) = m := by
  unfold valS
  rcases dec_form m with ⟨h, e⟩ | ⟨h, e⟩
  · rw [e]
    simp only [if_true, valU_dec]
    omega
  · rw [e]
    obtain ⟨b, r, e2, hb⟩ := dig_head m.natAbs
    have hv := valU_dec m.natAbs
    rw [e2] at hv ⊢
    simp only [if_neg hb, hv]
    omega
def numOk (m : Int) : Prop := -999999999 ≤ m ∧ m ≤ 999999999
instance (m : Int) : Decidable (numOk m) := by unfold numOk; exact inferInstance
def numC (s : ByteArray) : Int × Bool := if dec (valS s) = s ∧ numOk (valS s) then (valS s, true) else (0, false)
theorem numC_yes {m : Int} {s : ByteArray} (h : dec m = s) (hm : numOk m) : numC s = (m, true) := by
  subst h
  unfold numC
  rw [valS_dec, if_pos ⟨rfl, hm⟩]
theorem numC_no {s : ByteArray} (h : ∀ m, numOk m → dec m ≠ s) : numC s = (0, false) := by
  unfold numC
  rw [if_neg fun ⟨a, b⟩ => h _ b a]
theorem numC_true {s : ByteArray} (h : (numC s).2 = true) : dec (numC s).1 = s ∧ numOk (numC s).1 := by
  unfold numC at h ⊢
  split at h
  · rename_i q; rw [if_pos q]; exact q
  · cases h
theorem numC_ok (s : ByteArray) : numOk (numC s).1 := by
  unfold numC
  split
  · rename_i q; exact q.2
  · unfold numOk; decide
theorem nDig9 {u : Nat} (h : u ≤ 999999999) : Lib.nDigits u ≤ 9 := by
  rcases (show u < 10 ∨ (10 ≤ u ∧ u < 100) ∨ (100 ≤ u ∧ u < 1000) ∨ (1000 ≤ u ∧ u < 10000) ∨ (10000 ≤ u ∧ u < 100000) ∨ (100000 ≤ u ∧ u < 1000000) ∨ (1000000 ≤ u ∧ u < 10000000) ∨ (10000000 ≤ u ∧ u < 100000000) ∨ (100000000 ≤ u ∧ u < 1000000000) by omega) with h | ⟨h1, h2⟩ | ⟨h1, h2⟩ | ⟨h1, h2⟩ | ⟨h1, h2⟩ | ⟨h1, h2⟩ | ⟨h1, h2⟩ | ⟨h1, h2⟩ | ⟨h1, h2⟩
  · rw [Lib.nDigits_small h]; decide
  · rw [Lib.nDigits_unique 1 u (by simpa using h1) (by simpa using h2)]; decide
  · rw [Lib.nDigits_unique 2 u (by simpa using h1) (by simpa using h2)]; decide
  · rw [Lib.nDigits_unique 3 u (by simpa using h1) (by simpa using h2)]; decide
  · rw [Lib.nDigits_unique 4 u (by simpa using h1) (by simpa using h2)]; decide
  · rw [Lib.nDigits_unique 5 u (by simpa using h1) (by simpa using h2)]; decide
  · rw [Lib.nDigits_unique 6 u (by simpa using h1) (by simpa using h2)]; decide
  · rw [Lib.nDigits_unique 7 u (by simpa using h1) (by simpa using h2)]; decide
  · rw [Lib.nDigits_unique 8 u (by simpa using h1) (by simpa using h2)]; decide
theorem dig_len {u : Nat} (h : u ≤ 999999999) : 1 ≤ (Lib.decDigits u).length ∧ (Lib.decDigits u).length ≤ 9 := by
  rw [Lib.decDigits_length]
  exact ⟨Lib.nDigits_pos u, nDig9 h⟩
end Go.Proofs.YtgmppfhokfifgaaGreatDoor
