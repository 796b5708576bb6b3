/-
  Plain law on free words: cancelling with the inverse, the core, text and back (what FnFree says, with no program in sight).
-/
import Derived.Test.YtcoocjdkppdlmaaCore
import Derived.Test.YtcoocjdkppdlmaaWord
import Derived.Test.YtcoocjdkppdlmaaRead
namespace Go.Proofs.Ytcoocjdkppdlmaa
set_option maxRecDepth 10000
open Go.RowKit

theorem pushAll_cons (out : List Int) (x : Int) (xs : List Int) : pushAll out (x :: xs) = pushAll (push out x) xs := rfl
theorem push_undo (l : List Int) (x : Int) : push (l ++ [x]) (-x) = l := by
  unfold push
  rw [if_pos (by simp)]
  simp
theorem pushAll_inv (out : List Int) : pushAll out (inv out) = [] := by
  generalize h : out.length = n
  induction n generalizing out with
  | zero => obtain rfl := List.eq_nil_of_length_eq_zero h; rfl
  | succ n ih =>
    rcases nil_or_snoc out with rfl | ⟨l, x, rfl⟩
    · simp at h
    · rw [inv_snoc, pushAll_cons, push_undo]
      exact ih l (by simpa using h)
theorem red_join_inv (a : List Int) : red (a ++ inv (red a)) = [] := by rw [red_append]; exact pushAll_inv _
theorem red_red_join (a b : List Int) : red (red a ++ b) = red (a ++ b) := by rw [red_append, red_append, red_red]
theorem stop_true (p : Nat → Bool) (n : Nat) : ∀ j, j < stop p n → p j = true := by
  induction n with
  | zero => intro j hj; simp [stop] at hj
  | succ n ih =>
    intro j hj
    unfold stop at hj
    by_cases h1 : stop p n < n
    · rw [if_pos h1] at hj; exact ih j hj
    · have h2 := stop_le p n
      have h3 : stop p n = n := by omega
      rw [if_neg h1] at hj
      by_cases h4 : p n = true
      · rw [if_pos h4] at hj
        by_cases h5 : j < n
        · exact ih j (by omega)
        · obtain rfl : j = n := by omega
          exact h4
      · rw [if_neg h4] at hj
        exact ih j (by omega)
theorem coreN_le (xs : List Int) : 2 * coreN xs ≤ xs.length := coreN_two (stop_true _ _)
theorem gi_append_l {a b : List Int} {k : Nat} (h : k < a.length) : gi (a ++ b) k = gi a k := by simp [gi, List.getD, List.getElem?_append_left h]
theorem gi_append_r {a b : List Int} {k : Nat} (h : a.length ≤ k) : gi (a ++ b) k = gi b (k - a.length) := by simp [gi, List.getD, List.getElem?_append_right h]
theorem gi_drop (a : List Int) (n k : Nat) : gi (a.drop n) k = gi a (n + k) := by simp [gi, List.getD]
theorem gi_take {a : List Int} {n k : Nat} (h : k < n) : gi (a.take n) k = gi a k := by simp [gi, List.getD, h]
theorem gi_inv {a : List Int} {k : Nat} (h : k < a.length) : gi (inv a) k = -gi a (a.length - 1 - k) := by
  rw [gi_eq (by rw [inv_len]; exact h), gi_eq (by omega)]
  simp [inv]
theorem core_len (r : List Int) : (coreA r).length = coreN r ∧ (coreB r).length = r.length - 2 * coreN r := by
  have h := coreN_le r
  constructor
  · simp [coreA]; omega
  · simp [coreB]; omega
theorem core_join (r : List Int) : (coreA r ++ coreB r) ++ inv (coreA r) = r := by
  have h := coreN_le r
  obtain ⟨l1, l2⟩ := core_len r
  refine gi_ext (by simp [inv_len, l1, l2]; omega) fun j hj => ?_
  have hjl : j < r.length := by simp [inv_len, l1, l2] at hj; omega
  by_cases h1 : j < (coreA r ++ coreB r).length
  · rw [gi_append_l h1]
    by_cases h2 : j < (coreA r).length
    · rw [gi_append_l h2, coreA, gi_take (by omega)]
    · rw [gi_append_r (by omega), coreB, gi_take (by simp [l1, l2] at h1; omega), gi_drop]
      congr 1; omega
  · have h3 : (coreA r ++ coreB r).length = r.length - coreN r := by simp [l1, l2]; omega
    rw [gi_append_r (by omega), gi_inv (by rw [h3] at h1 ⊢; omega), h3, l1, coreA, gi_take (by rw [h3] at h1; omega)]
    have hp := stop_true (coreP r) r.length (r.length - 1 - j) (show _ < coreN r by rw [h3] at h1; omega)
    simp only [coreP, Bool.and_eq_true, beq_iff_eq] at hp
    rw [show coreN r - 1 - (j - (r.length - coreN r)) = r.length - 1 - j by rw [h3] at h1; omega, hp.2, Int.neg_neg]
    congr 1; omega
theorem rdc_left {a b : List Int} (h : Rdc (a ++ b)) : Rdc a := (rdc_append.1 h).1
theorem rdc_coreA {r : List Int} (h : Rdc r) : Rdc (coreA r) := by
  have := core_join r
  rw [← this] at h
  exact rdc_left (rdc_left h)
theorem rdc_coreAB {r : List Int} (h : Rdc r) : Rdc (coreA r ++ coreB r) := by
  have := core_join r
  rw [← this] at h
  exact rdc_left h
theorem okFree_of {n : Int} {a b : List Int} (h : okFree n a = true) (hl : b.length ≤ 20000) (hm : ∀ x ∈ b, x ∈ a ∨ -x ∈ a) : okFree n b = true := by
  obtain ⟨h1, h2, h3, h4⟩ := okFree_parts h
  simp only [okFree, Bool.and_eq_true, decide_eq_true_eq, inR_iff]
  refine ⟨⟨⟨h1, h2⟩, hl⟩, ?_⟩
  simp only [letters, List.all_eq_true, Bool.not_eq_true']
  intro x hx
  rcases hm x hx with hx | hx
  · have := letters_mem h4 x hx
    exact badLetter_no this.1 this.2.1 this.2.2
  · have := letters_mem h4 _ hx
    exact badLetter_no (by omega) (by omega) (by omega)
/-! ### The text of a word and back -/
theorem strOf_data (bs : List Int) : strOf bs = ⟨(bs.map fun n => UInt8.ofNat n.toNat).toArray⟩ := by
  have aux : ∀ (bs : List Int) (s : ByteArray), bs.foldl (fun r n => r.push (UInt8.ofNat n.toNat)) s = ⟨s.data ++ (bs.map fun n => UInt8.ofNat n.toNat).toArray⟩ := by
    intro bs
    induction bs with
    | nil => intro s; simp
    | cons x t ih => intro s; rw [List.foldl_cons, ih]; simp [ByteArray.push]
  rw [strOf, aux]
  simp
theorem strOf_toList (bs : List Int) : (strOf bs).toList = bs.map fun n => UInt8.ofNat n.toNat := by rw [strOf_data, ByteArray.toList_eq]
theorem strOf_size (bs : List Int) : (strOf bs).size = bs.length := by rw [strOf_data]; simp [ByteArray.size]
theorem strOf_sb {bs : List Int} {k : Nat} (h : k < bs.length) (hb : ∀ x ∈ bs, 0 ≤ x ∧ x ≤ 255) : sb (strOf bs) k = gi bs k := by
  rw [sb_eq (by rw [strOf_size]; exact h)]
  have hx := hb _ (gi_mem h)
  have : (strOf bs)[k]'(by rw [strOf_size]; exact h) = UInt8.ofNat (gi bs k).toNat := by
    simp only [strOf_data]
    show ((bs.map fun n => UInt8.ofNat n.toNat).toArray)[k]'_ = _
    rw [gi_eq h]; simp
  rw [this]
  have h2 : (gi bs k).toNat < 256 := by omega
  simp [Nat.mod_eq_of_lt h2]
  omega
theorem letterByte_bd {x : Int} (h0 : x ≠ 0) (h1 : -12 ≤ x) (h2 : x ≤ 12) : 65 ≤ letterByte x ∧ letterByte x ≤ 108 ∧ cd (letterByte x) = x := by
  unfold letterByte
  by_cases h : 0 < x
  · rw [if_pos h]
    exact ⟨by omega, by omega, by rw [cd_small (by omega) (by omega)]; omega⟩
  · rw [if_neg h]
    exact ⟨by omega, by omega, by rw [cd_big (by omega) (by omega)]; omega⟩
theorem text_back {n : Int} {a : List Int} (h : okFree n a = true) : okRead n (fText n a) = true ∧ readRes n (fText n a) = a ∧ (fText n a).size ≤ 1048576 := by
  obtain ⟨h1, h2, h3, h4⟩ := okFree_parts h
  rw [fText, if_pos h]
  unfold freeStr
  by_cases h0 : a.length = 0
  · obtain rfl := List.eq_nil_of_length_eq_zero h0
    simp only [List.length_nil, ↓reduceIte]
    have e1 : isOne ⟨#[49]⟩ = true := by rw [isOne, ByteArray.toList_eq]; rfl
    have e2 : okRead n ⟨#[49]⟩ = true := by
      simp only [okRead, e1, Bool.true_or, Bool.and_true, Bool.and_eq_true, inR_iff, decide_eq_true_eq]
      exact ⟨⟨⟨h1, h2⟩, by rw [ByteArray.toList_eq]; rfl⟩, by decide⟩
    exact ⟨e2, by rw [readRes, if_pos e2, if_pos e1], by decide⟩
  · rw [if_neg h0]
    have hb : ∀ x ∈ a.map letterByte, 0 ≤ x ∧ x ≤ 255 := by
      intro x hx
      obtain ⟨y, hy, rfl⟩ := List.mem_map.1 hx
      have := okFree_mem h y hy
      have := letterByte_bd this.1 this.2.1 this.2.2
      omega
    have hs : (strOf (a.map letterByte)).size = a.length := by rw [strOf_size]; simp
    have hc : codesTo (strOf (a.map letterByte)) a.length = a := by
      refine gi_ext (codesTo_len _ _) fun j hj => ?_
      rw [codesTo_len] at hj
      rw [codesTo_gi _ _ _ hj, strOf_sb (by simpa using hj) hb]
      have hm := okFree_mem h _ (gi_mem hj)
      have := letterByte_bd hm.1 hm.2.1 hm.2.2
      rw [show gi (a.map letterByte) j = letterByte (gi a j) by rw [gi_eq (by simpa using hj), gi_eq hj]; simp]
      exact this.2.2
    have e1 : isOne (strOf (a.map letterByte)) = false := by
      rw [isOne, strOf_toList, List.map_map]
      match a, h0 with
      | x :: t, _ =>
        have hm := okFree_mem h x (by simp)
        have := letterByte_bd hm.1 hm.2.1 hm.2.2
        have hne : UInt8.ofNat (letterByte x).toNat ≠ 49 := fun e => by
          have e2 := congrArg UInt8.toNat e
          rw [UInt8.toNat_ofNat] at e2
          simp at e2
          omega
        simp [hne]
    have e2 : okRead n (strOf (a.map letterByte)) = true := by
      simp only [okRead, e1, Bool.false_or, Bool.and_eq_true, inR_iff, decide_eq_true_eq, hs, hc]
      refine ⟨⟨⟨⟨h1, h2⟩, ?_⟩, h3⟩, h4⟩
      rw [strOf_toList]
      cases a with
      | nil => simp at h0
      | cons => rfl
    exact ⟨e2, by rw [readRes, if_pos e2, e1, hs, hc]; rfl, by rw [hs]; omega⟩
end Go.Proofs.Ytcoocjdkppdlmaa
