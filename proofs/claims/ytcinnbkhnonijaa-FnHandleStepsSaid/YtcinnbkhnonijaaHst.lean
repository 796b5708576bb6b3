/-
  The plain law of FnHandleSteps.
-/
import Derived.Test.YtcinnbkhnonijaaGw3
import Derived.Test.YtcinnbkhnonijaaHpl
import Derived.Test.YtcinnbkhnonijaaHand4
import Derived.Test.YtcinnbkhnonijaaMl
namespace Go.Proofs.Ytcinnbkhnonijaa
set_option maxRecDepth 10000

theorem rh_facts {n f t : Int} {xs : List Int} (h : (rhA n xs f t).2.2 = 0) : okBr (rhA n xs f t).1 (rhA n xs f t).2.1 = true ∧ eqBr (rhA n xs f t).1 (rhA n xs f t).2.1 n xs = true := by
  unfold rhA at h ⊢
  by_cases h1 : okBr n xs = true
  · rw [if_pos h1] at h ⊢
    by_cases h2 : isH xs f t = true
    · rw [if_pos h2] at h ⊢
      by_cases h3 : (hRed xs f.toNat t.toNat).length ≤ 40
      · rw [if_pos h3] at h ⊢
        clear h
        have hin := okBr_in h1
        have h2' := h2
        simp only [isH, Bool.and_eq_true, decide_eq_true_eq] at h2'
        obtain ⟨⟨ht, hf⟩, hh⟩ := h2'
        have ht := inR_iff.1 ht
        have hb := (hTo_bd xs t.toNat).2
        have ht2 : t.toNat < xs.length := by omega
        have hft : f.toNat < t.toNat := by omega
        have he : endsH xs f.toNat t.toNat = true := by
          rw [← isH_ends hft ht2 (hin _ (gi_mem ht2)).1]
          rw [show ((f.toNat : Nat) : Int) = f by omega, show ((t.toNat : Nat) : Int) = t by omega]
          exact h2
        have hg := hRed_gen hin hft ht2 he
        have hi := hRed_in hin hft ht2
        have hk : okBr n (hRed xs f.toNat t.toNat) = true := by
          have h4 := okBr_parts h1
          simp only [okBr, Bool.and_eq_true, decide_eq_true_eq]
          exact ⟨⟨inR_iff.2 ⟨h4.1, h4.2.1⟩, h3⟩, letters_iff.2 fun j hj => badLetter_no (hi _ (gi_mem hj)).1 (hi _ (gi_mem hj)).2.1 (hi _ (gi_mem hj)).2.2⟩
        refine ⟨hk, ?_⟩
        simp only [eqBr, hk, h1, Bool.true_and, beq_self_eq_true]
        exact eqG_iff.2 hg
      · rw [if_neg h3] at h
        simp at h
    · rw [if_neg h2] at h
      simp at h
  · rw [if_neg h1] at h
    simp at h
theorem fh_yes {n : Int} {xs : List Int} (h : fhB n xs = true) : (okBr n xs && isH xs (fhF n xs) (fhT n xs)) = true := by
  simp only [fhB, Bool.and_eq_true] at h
  obtain ⟨h1, h2⟩ := h
  rw [fhF, fhT, if_pos h1, if_pos h1, h1, Bool.true_and]
  unfold hOk at h2
  unfold hF hT
  cases h3 : firstT xs with
  | none => rw [h3] at h2; cases h2
  | some k =>
    obtain ⟨h4, h5, -⟩ := firstT_is h3
    simp only [isH, Bool.and_eq_true, decide_eq_true_eq]
    exact ⟨⟨inR_iff.2 ⟨by omega, by omega⟩, h5⟩, by simp⟩
theorem fh_no {n : Int} {xs : List Int} (h : fhB n xs = false) (h1 : okBr n xs = true) : mlB n xs = decide (0 < xs.length) := by
  simp only [fhB, h1, Bool.true_and] at h
  rw [mlB, h1, Bool.true_and]
  have h2 : firstT xs = none := by
    unfold hOk at h
    cases h3 : firstT xs with
    | none => rfl
    | some k => rw [h3] at h; cases h
  rw [pure_of_none (fun x hx => (okBr_in h1 x hx).1) h2]
  cases xs <;> simp
end Go.Proofs.Ytcinnbkhnonijaa
