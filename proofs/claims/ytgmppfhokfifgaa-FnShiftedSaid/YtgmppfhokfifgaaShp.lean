/-
  Plain laws of FnMirroredProgram and FnShifted. No program in sight.
-/
import Derived.Test.YtgmppfhokfifgaaDrm
import Derived.Test.YtgmppfhokfifgaaRnp
import Derived.Test.YtgmppfhokfifgaaPo5
import Derived.Test.YtgmppfhokfifgaaGmi
import Derived.Test.YtgmppfhokfifgaaKc
import Derived.Test.YtgmppfhokfifgaaCu
namespace Go.Proofs.Ytgmppfhokfifgaa
set_option maxRecDepth 10000
open Go.RowKit

theorem okOps_of {n : Int} {os : List (List Int)} (h0 : 1 ≤ n) (h1 : n ≤ 24) (hl : os.length ≤ 1500) (h : ∀ o ∈ os, opB o = true ∧ gi o 3 < n ∧ gi o 5 < n) : okOps n os = true := by
  simp only [okOps, Bool.and_eq_true, decide_eq_true_eq, inR_iff, List.all_eq_true, fitB]
  exact ⟨⟨⟨h0, h1⟩, hl⟩, fun o ho => ⟨(h o ho).1, (h o ho).2.1, (h o ho).2.2⟩⟩
theorem DrOk.okOps {n : Int} {M : Mac} {os : List (List Int)} (h : DrOk n M os) (hn : 2 ≤ n ∧ n ≤ 6) (hl : os.length ≤ 30) : okOps n os = true :=
  okOps_of (by omega) (by omega) (by omega) fun o ho => ⟨(h.ops o ho).2.1, (h.ops o ho).2.2.1, (h.ops o ho).2.2.2⟩
theorem map_back {g k : List Int → List Int} {os : List (List Int)} (h : ∀ o ∈ os, k (g o) = o) : (os.map g).map k = os := by
  rw [List.map_map]
  calc os.map (k ∘ g) = os.map id := List.map_congr_left fun o ho => h o ho
    _ = os := List.map_id os
theorem gl_mapS {g : List Int → List Int} {os : List (List Int)} {k : Nat} (h : k < os.length) : gl (os.map g) k = g (gl os k) := by
  rw [gl_eq (by simpa using h), gl_eq h, List.getElem_map]
theorem kcUp_map {g : List Int → List Int} {os : List (List Int)} (hg : ∀ o, gi (g o) 0 = gi o 0) : ∀ k, k ≤ os.length → kcUp (os.map g) k = kcUp os k
  | 0, _ => rfl
  | k + 1, hk => by
    unfold kcUp
    rw [kcUp_map hg k (by omega), gl_mapS (by omega), hg]
theorem cuUp_map {g : List Int → List Int} {os : List (List Int)} (hg : ∀ o, gi (g o) 6 = gi o 6) : ∀ k, k ≤ os.length → cuUp (os.map g) k = cuUp os k
  | 0, _ => rfl
  | k + 1, hk => by
    unfold cuUp
    rw [cuUp_map hg k (by omega), gl_mapS (by omega), hg]
theorem okOps_24 {n : Int} {os : List (List Int)} (h : okOps n os = true) : okOps 24 os = true := by
  simp only [okOps, Bool.and_eq_true, decide_eq_true_eq, inR_iff, List.all_eq_true, fitB] at h ⊢
  exact ⟨⟨⟨by omega, by omega⟩, h.1.2⟩, fun o ho => ⟨(h.2 o ho).1, by have := (h.2 o ho).2.1; omega, by have := (h.2 o ho).2.2; omega⟩⟩
theorem mov_back {f : Int} {o : List Int} (h : o.length = 8) : mapO (movN (-f)) (mapO (movN f) o) = o := by
  match o, h with
  | [a0, a1, a2, a3, a4, a5, a6, a7], _ =>
    simp only [mapO, movN, gi, List.getD_cons_zero, List.getD_cons_succ, List.cons.injEq, true_and, and_true]
    constructor
    · split <;> omega
    · split <;> omega
theorem mov_zero {o : List Int} (h : o.length = 8) : mapO (movN 0) o = o := by
  have := mov_back (f := 0) h
  match o, h with
  | [a0, a1, a2, a3, a4, a5, a6, a7], _ => simp [mapO, movN, gi]
theorem sh_plain {n b : Int} {M : Mac} {os : List (List Int)} (h : DrOk n M os) (hn : 2 ≤ n ∧ n ≤ 6) (hl : os.length ≤ 30) (hb : -2 ≤ b ∧ b ≤ 2) :
    (spA n os b = ([], 2) ∧ b ≠ 0) ∨ ∃ os2, spA n os b = (os2, 0) ∧ spA n os2 (-b) = (os, 0) ∧ kcA os2 = kcA os ∧ cuA os2 = cuA os := by
  have h1 := h.okOps hn hl
  have hc : clampN b = b := by unfold clampN; omega
  have hc2 : clampN (-b) = -b := by unfold clampN; omega
  cases h2 : okOps n (os.map (mapO (movN b)))
  · left
    refine ⟨by simp [spA, h1, spB, hc, h2], fun e => ?_⟩
    subst e
    have e : os.map (mapO (movN 0)) = os := by
      calc os.map (mapO (movN 0)) = os.map id := List.map_congr_left fun o ho => mov_zero (h.ops o ho).1
        _ = os := List.map_id os
    rw [e, h1] at h2
    cases h2
  · right
    refine ⟨os.map (mapO (movN b)), by simp [spA, h1, spB, hc, h2], ?_, ?_, ?_⟩
    · rw [spA, if_pos h2, hc2, map_back fun o ho => mov_back (h.ops o ho).1, spB, if_pos h1]
    · rw [kcA, kcA, if_pos (okOps_24 h2), if_pos (okOps_24 h1), List.length_map]
      exact kcUp_map (g := mapO (movN b)) (os := os) (fun _ => rfl) _ (Nat.le_refl _)
    · rw [cuA, cuA, if_pos (okOps_24 h2), if_pos (okOps_24 h1), List.length_map]
      exact cuUp_map (g := mapO (movN b)) (os := os) (fun _ => rfl) _ (Nat.le_refl _)
end Go.Proofs.Ytgmppfhokfifgaa
