/-
  Plain laws of FnMachine: every loop is a parent, dropped or live (used_all); a run step by step. No program in sight.
-/
import Derived.Test.YtgmppfhokfifgaaGreatUsd
import Derived.Test.YtgmppfhokfifgaaGreatVmd
namespace Go.Proofs.YtgmppfhokfifgaaGreat
set_option maxRecDepth 10000

/-! ### Every loop is a parent, dropped or live -/
theorem liveUp_mem {m : Mac} {y : Int} {j : Nat} : ∀ {k : Nat}, j < k → (y ∈ liveF m ((j : Int) - 3) ∨ y ∈ liveK m ((j : Int) - 3)) → y ∈ liveUp m k
  | k + 1, h, hy => by
    rw [liveUp, List.mem_append, List.mem_append]
    by_cases e : j = k
    · subst e; exact .inr hy
    · exact .inl (liveUp_mem (by omega) hy)
theorem flat_gl {L : List (List Int)} {y : Int} (h : y ∈ L.flatten) : ∃ k, k < L.length ∧ y ∈ gl L k := by
  obtain ⟨l, hl, hy⟩ := List.mem_flatten.1 h
  obtain ⟨k, hk, rfl⟩ := List.getElem_of_mem hl
  exact ⟨k, hk, by rw [gl_eq hk]; exact hy⟩
theorem live_all {m : Mac} (h : OkM m) {y : Int} (hy : y ∈ m.fr.flatten ∨ y ∈ m.bk.flatten) : y ∈ liveM m := by
  obtain ⟨w0, w1⟩ := h.wd
  obtain ⟨r0, r1⟩ := h.rk
  have hf := h.fr
  have hb := h.bk
  rcases hy with hy | hy
  · obtain ⟨k, hk, hky⟩ := flat_gl hy
    refine liveUp_mem (j := k + 3) (by omega) (.inl ?_)
    rw [liveF_yes (inR_iff.2 (by omega))]
    have e : (((k + 3 : Nat) : Int) - 3).toNat = k := by omega
    simp only [Mac.on, Mac.sd, e]
    simpa using hky
  · obtain ⟨k, hk, hky⟩ := flat_gl hy
    refine liveUp_mem (j := ((k : Int) + m.rk + 3).toNat) (by omega) (.inr ?_)
    rw [liveK_yes (inR_iff.2 (by omega))]
    have e : (((((k : Int) + m.rk + 3).toNat : Nat) : Int) - 3 - m.rk).toNat = k := by omega
    simp only [Mac.on, Mac.sd, e]
    simpa using hky
theorem live_rng {m : Mac} (h : OkM m) : ∀ y ∈ liveM m, 0 ≤ y ∧ y < m.lp.length := by
  have hon : ∀ b a : Int, ∀ y ∈ m.on b a, 0 ≤ y ∧ y < m.lp.length := by
    intro b a y hy
    refine h.rng y ?_
    unfold Mac.on at hy
    have hmem : gl (m.sd b) a.toNat ∈ m.sd b := by
      refine gl_mem ?_
      rcases Nat.lt_or_ge a.toNat (m.sd b).length with q | q
      · exact q
      · rw [gl, List.getD, List.getElem?_eq_none q] at hy
        simp at hy
    simp only [allM, List.mem_append, List.mem_flatten]
    unfold Mac.sd at hmem hy
    split at hmem
    · rw [if_pos (by assumption)] at hy
      exact .inl (.inr ⟨_, hmem, hy⟩)
    · rw [if_neg (by assumption)] at hy
      exact .inl (.inl ⟨_, hmem, hy⟩)
  have : ∀ k, ∀ y ∈ liveUp m k, 0 ≤ y ∧ y < m.lp.length := by
    intro k
    induction k with
    | zero => intro y hy; simp [liveUp] at hy
    | succ k ih =>
      intro y hy
      rw [liveUp, List.mem_append, List.mem_append] at hy
      rcases hy with hy | hy | hy
      · exact ih y hy
      · unfold liveF at hy
        split at hy
        · exact hon _ _ y hy
        · simp at hy
      · unfold liveK at hy
        split at hy
        · exact hon _ _ y hy
        · simp at hy
  exact this _
/-- What the law marks as used is everything. -/
theorem used_all {m : Mac} (h : OkM m) (hu : Used m) {x : Int} (h0 : 0 ≤ x) (h1 : x < m.lp.length) : (∃ l ∈ m.lp, x ∈ l.drop 5) ∨ x ∈ m.dr ∨ x ∈ liveM m := by
  rcases hu x h0 h1 with q | q
  · have := cnt_mem.2 q
    simp only [allM, List.mem_append] at this
    rcases this with (q | q) | q
    · exact .inr (.inr (live_all h (.inl q)))
    · exact .inr (.inr (live_all h (.inr q)))
    · exact .inr (.inl q)
  · exact .inl q
theorem run_step {m M : Mac} {os : List (List Int)} {k : Nat} {c : Int} (h : runL m k (os.drop k) = (M, c, 0)) (hk : k < os.length) : codeM m (gl os k) = 0 ∧ runL (stepM m (gl os k)) (k + 1) (os.drop (k + 1)) = (M, c, 0) := by
  by_cases hc : codeM m (gl os k) = 0
  · exact ⟨hc, by rw [← runL_go hk hc]; exact h⟩
  · rw [runL_stop hk hc] at h
    simp only [Prod.mk.injEq] at h
    exact absurd h.2.2 hc
theorem run_end {m M : Mac} {os : List (List Int)} {c : Int} (h : runL m os.length (os.drop os.length) = (M, c, 0)) : m = M := by
  rw [runL_end] at h
  simp only [Prod.mk.injEq] at h
  exact h.1
end Go.Proofs.YtgmppfhokfifgaaGreat
