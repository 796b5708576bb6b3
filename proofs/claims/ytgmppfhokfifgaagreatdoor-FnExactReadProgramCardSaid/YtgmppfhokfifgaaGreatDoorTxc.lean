/-
  Plain laws: what the program's ReadOp answers; slices.Index on the words of the kinds.
-/
import Derived.Test.YtgmppfhokfifgaaGreatDoorTxb
import Derived.Test.YtgmppfhokfifgaaGreatDoorSix
namespace Go.Proofs.YtgmppfhokfifgaaGreatDoor
set_option maxRecDepth 10000
open Go.RowKit Go.Sort
set_option linter.unusedSimpArgs false

theorem dec_ne0 (c : Int) : 0 < (dec c).size := by
  obtain ⟨x, l, h, -⟩ := dec_head c
  rw [← tl_len_, h]; simp
theorem ndS_ne0 (b a : Int) : 0 < (ndS b a).size := by rw [← tl_len_, nd_data]; simp
theorem dirS_ne0 (d : Int) : 0 < (dirS d).size := by unfold dirS; split <;> decide
theorem kw_ne0 {m : Nat} (h1 : 1 ≤ m) (h2 : m ≤ 9) : 0 < (kw m).size := by
  rcases (show m = 1 ∨ m = 2 ∨ m = 3 ∨ m = 4 ∨ m = 5 ∨ m = 6 ∨ m = 7 ∨ m = 8 ∨ m = 9 by omega) with rfl | rfl | rfl | rfl | rfl | rfl | rfl | rfl | rfl <;> decide
/-- The words of a valid operation: one to five, none of them empty. -/
theorem opW_words {k d fb fa tb ta c r : Int} (h : vOp k d fb fa tb ta c r = true) : 0 < (opW k d fb fa tb ta c r).length ∧ (opW k d fb fa tb ta c r).length ≤ 5 ∧ ∀ x ∈ opW k d fb fa tb ta c r, keepW x = true := by
  obtain ⟨n, rfl, h1, h2, -, -, hs⟩ := op_cases h
  have hl : ∀ (p : Prop) [Decidable p] (x : ByteArray), (if p then [] else [x]).length = if p then 0 else 1 := fun p _ x => by split <;> rfl
  refine ⟨by simp [opW], ?_, fun x hx => ?_⟩
  · unfold opW
    rcases hs with ⟨q, hd, hf, ht, hc⟩ | ⟨q, hd, hf, ht, hc⟩ | ⟨q, hd, hf, ht, hc⟩ | ⟨q, hd, hf, ht, hc⟩ | ⟨q, hd, hf, ht, hc⟩ | ⟨q, hd, hf, ht, hc⟩ | ⟨q, hd, hf, ht, hc⟩
    · have h7 : ¬ ((n : Int) = 7) := by omega
      simp [hd, hf, ht, hc, h7]
    all_goals (subst q; simp [hd, hf, ht, hc])
  · rw [keepW_iff]
    unfold opW at hx
    simp only [List.mem_cons, List.mem_append] at hx
    rcases hx with rfl | (((hx | hx) | hx) | hx) | hx
    · exact kw_ne0 (by simpa using h1) (by simpa using h2)
    all_goals
      split at hx
      · first | (simp only [List.mem_singleton] at hx; subst hx; first | exact dirS_ne0 _ | exact ndS_ne0 _ _ | exact dec_ne0 _) | cases hx
      · first | (simp only [List.mem_singleton] at hx; subst hx; first | exact dirS_ne0 _ | exact ndS_ne0 _ _ | exact dec_ne0 _) | cases hx
theorem imp_words {s : ByteArray} {ps : List ByteArray} (h : IsSp 32 s.data.toList (bl_ ps)) {o : List Int} (hl : o.length = 8) (hv : opB o = true) (hs : opT o = s) :
    ps.filter keepW = ps ∧ 0 < ps.length ∧ ps.length ≤ 5 := by
  obtain ⟨hw, -⟩ := parse_valid hl hv hs h
  obtain ⟨h1, h2, h3⟩ := opW_words hv
  rw [← hw] at h1 h2 h3
  exact ⟨List.filter_eq_self.2 h3, h1, h2⟩
/-- The program's answer. -/
theorem rd_imp0 {s : ByteArray} {ps : List ByteArray} (h : IsSp 32 s.data.toList (bl_ ps)) (hn : (ps.filter keepW).length = 0 ∨ 5 < (ps.filter keepW).length) : RdRT s opz false := by
  refine .inr ⟨rfl, rfl, fun o hl hv hs => ?_⟩
  obtain ⟨e, h1, h2⟩ := imp_words h hl hv hs
  rw [e] at hn
  omega
theorem rd_imp {s : ByteArray} {ps us : List ByteArray} {n : Nat} (hu : us = ps.filter keepW) (hk : KindR (gs us 0) n) (h : IsSp 32 s.data.toList (bl_ ps)) {o : List Int} (ho : impO n (us.drop 1) = o) (hl : o.length = 8) :
    (opB o = true ∧ opT o = s → RdRT s o true) ∧ (opB o = false ∨ opT o ≠ s → RdRT s opz false) := by
  refine ⟨fun ⟨h1, h2⟩ => .inl ⟨rfl, hl, h1, h2⟩, fun h1 => .inr ⟨rfl, rfl, fun o' hl' hv' hs' => ?_⟩⟩
  obtain ⟨e, -, -⟩ := imp_words h hl' hv' hs'
  rw [e] at hu
  subst hu
  have := (parse_kind hk h hl' hv' hs').2
  have e : o = o' := ho.symm.trans this
  subst e
  rcases h1 with h1 | h1
  · rw [hv'] at h1; cases h1
  · exact h1 hs'
theorem impStep_len {x : ByteArray} {o : List Int} (h : o.length = 8) : (impStep x o).length = 8 := by
  unfold impStep
  split
  · rfl
  split
  · rfl
  split
  · split <;> rfl
  split
  · split <;> rfl
  · exact h
/-- The place of a word among the words of the kinds. -/
theorem kind_idx (x : ByteArray) : ∃ n : Nat, n ≤ 9 ∧ KindR x n ∧ max 0 (Lib.idxOfS kwL x) = (n : Int) := by
  by_cases h0 : kw 0 = x
  · subst h0
    exact ⟨0, by omega, .inr ⟨rfl, fun j h1 h2 e => by have := kw_inj ⟨j, by omega⟩ ⟨0, by omega⟩ e; simp at this; omega⟩, by decide⟩
  by_cases h1 : kw 1 = x
  · subst h1; exact ⟨1, by omega, .inl ⟨by omega, by omega, rfl⟩, by decide⟩
  by_cases h2 : kw 2 = x
  · subst h2; exact ⟨2, by omega, .inl ⟨by omega, by omega, rfl⟩, by decide⟩
  by_cases h3 : kw 3 = x
  · subst h3; exact ⟨3, by omega, .inl ⟨by omega, by omega, rfl⟩, by decide⟩
  by_cases h4 : kw 4 = x
  · subst h4; exact ⟨4, by omega, .inl ⟨by omega, by omega, rfl⟩, by decide⟩
  by_cases h5 : kw 5 = x
  · subst h5; exact ⟨5, by omega, .inl ⟨by omega, by omega, rfl⟩, by decide⟩
  by_cases h6 : kw 6 = x
  · subst h6; exact ⟨6, by omega, .inl ⟨by omega, by omega, rfl⟩, by decide⟩
  by_cases h7 : kw 7 = x
  · subst h7; exact ⟨7, by omega, .inl ⟨by omega, by omega, rfl⟩, by decide⟩
  by_cases h8 : kw 8 = x
  · subst h8; exact ⟨8, by omega, .inl ⟨by omega, by omega, rfl⟩, by decide⟩
  by_cases h9 : kw 9 = x
  · subst h9; exact ⟨9, by omega, .inl ⟨by omega, by omega, rfl⟩, by decide⟩
  · refine ⟨0, by omega, .inr ⟨rfl, fun j q1 q2 => ?_⟩, ?_⟩
    · rcases (show j = 1 ∨ j = 2 ∨ j = 3 ∨ j = 4 ∨ j = 5 ∨ j = 6 ∨ j = 7 ∨ j = 8 ∨ j = 9 by omega) with rfl | rfl | rfl | rfl | rfl | rfl | rfl | rfl | rfl <;> assumption
    · have e : Lib.idxOfS kwL x = -1 := by
        have q : ∀ k : Nat, k < 10 → ¬ (kw k = x) := fun k hk => by
          rcases (show k = 0 ∨ k = 1 ∨ k = 2 ∨ k = 3 ∨ k = 4 ∨ k = 5 ∨ k = 6 ∨ k = 7 ∨ k = 8 ∨ k = 9 by omega) with rfl | rfl | rfl | rfl | rfl | rfl | rfl | rfl | rfl | rfl <;> assumption
        have : kwL = [kw 0, kw 1, kw 2, kw 3, kw 4, kw 5, kw 6, kw 7, kw 8, kw 9] := rfl
        rw [this]
        simp [Lib.idxOfS, Lib.idxFromS, h0, h1, h2, h3, h4, h5, h6, h7, h8, h9]
      rw [e]; decide
end Go.Proofs.YtgmppfhokfifgaaGreatDoor
