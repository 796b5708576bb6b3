/-
  Plain laws of FnPrograms: counts of kinds add up, the least width suffices and no smaller one does, a program's text is short.
-/
import Derived.Test.YtgmppfhokfifgaaGreatDoorDrm
import Derived.Test.YtgmppfhokfifgaaGreatDoorKc
import Derived.Test.YtgmppfhokfifgaaGreatDoorPrg
import Derived.Test.YtgmppfhokfifgaaGreatDoorTxq
import Derived.Test.YtgmppfhokfifgaaGreatDoorTya
namespace Go.Proofs.YtgmppfhokfifgaaGreatDoor
set_option maxRecDepth 10000
open Go.RowKit Go.Sort

/-- The sum of a list's first numbers. -/
def sU (xs : List Int) : Nat → Int
  | 0 => 0
  | k + 1 => sU xs k + gi xs k
theorem sU_set {xs : List Int} {p : Nat} (hp : p < xs.length) (v : Int) : ∀ m, sU (xs.set p v) m = sU xs m + (if p < m then v - gi xs p else 0)
  | 0 => by simp [sU]
  | m + 1 => by
    rw [sU, sU, sU_set hp v m]
    by_cases e : p = m
    · subst e
      rw [gi_set_same hp, if_neg (by omega), if_pos (by omega)]
      omega
    · rw [gi_set_ne e]
      by_cases l : p < m
      · rw [if_pos l, if_pos (by omega)]; omega
      · rw [if_neg l, if_neg (by omega)]; omega
theorem sU_zero (n : Nat) : ∀ m, sU (List.replicate n 0) m = 0
  | 0 => rfl
  | m + 1 => by rw [sU, sU_zero n m, gi_replicate]; rfl
theorem sU_bd {xs : List Int} {b : Int} (h : ∀ j, 0 ≤ gi xs j ∧ gi xs j ≤ b) : ∀ m : Nat, 0 ≤ sU xs m ∧ sU xs m ≤ b * m
  | 0 => by simp [sU]
  | m + 1 => by
    have h1 := sU_bd h m
    have h2 := h m
    have e : b * ((m + 1 : Nat) : Int) = b * (m : Int) + b := by rw [Int.natCast_add, Int.mul_add]; simp
    rw [sU, e]
    omega
theorem kc_sum {os : List (List Int)} (h : ∀ j, j < os.length → 1 ≤ gi (gl os j) 0 ∧ gi (gl os j) 0 ≤ 9) : ∀ k, k ≤ os.length → sU (kcUp os k) 9 = (k : Int)
  | 0, _ => sU_zero 9 9
  | k + 1, hk => by
    have ih := kc_sum h k (by omega)
    have hb := h k (by omega)
    rw [kcUp, sU_set (by rw [kcUp_len]; omega), ih, if_pos (by omega)]
    omega
/-- The least width. -/
theorem lw_mono {os : List (List Int)} {n : Int} (h1 : 1 ≤ n) (h : ∀ j, j < os.length → gi (gl os j) 3 < n ∧ gi (gl os j) 5 < n) : ∀ k, k ≤ os.length → lwUp os k ≤ n
  | 0, _ => h1
  | k + 1, hk => by
    have ih := lw_mono h1 h k (by omega)
    have hb := h k (by omega)
    rw [lwUp, lw1]
    omega
theorem lw_fits {os : List (List Int)} : ∀ k, k ≤ os.length → ∀ j, j < k → gi (gl os j) 3 < lwUp os k ∧ gi (gl os j) 5 < lwUp os k
  | 0, _ => fun j hj => by omega
  | k + 1, hk => fun j hj => by
    rw [lwUp, lw1]
    by_cases e : j = k
    · subst e; omega
    · have := lw_fits (os := os) k (by omega) j (by omega)
      omega
theorem lw_hit {os : List (List Int)} : ∀ k, k ≤ os.length → lwUp os k = 1 ∨ ∃ j, j < k ∧ (lwUp os k = gi (gl os j) 3 + 1 ∨ lwUp os k = gi (gl os j) 5 + 1)
  | 0, _ => .inl rfl
  | k + 1, hk => by
    have ih := lw_hit (os := os) k (by omega)
    rw [lwUp, lw1]
    by_cases e : max (gi (gl os k) 3) (gi (gl os k) 5) + 1 ≤ lwUp os k
    · rw [show max (lwUp os k) (max (gi (gl os k) 3) (gi (gl os k) 5) + 1) = lwUp os k by omega]
      rcases ih with ih | ⟨j, h1, h2⟩
      · exact .inl ih
      · exact .inr ⟨j, by omega, h2⟩
    · exact .inr ⟨k, by omega, by omega⟩
theorem okOps_off {n : Int} {os : List (List Int)} (h0 : 1 ≤ n) (h1 : n ≤ 24) (hl : os.length ≤ 1500) (h : ∀ j, j < os.length → opB (gl os j) = true ∧ gi (gl os j) 3 < n ∧ gi (gl os j) 5 < n) : okOps n os = true := by
  simp only [okOps, Bool.and_eq_true, decide_eq_true_eq, inR_iff]
  refine ⟨⟨⟨h0, h1⟩, hl⟩, all_iff.2 fun j hj => ?_⟩
  have := h j hj
  simp only [Bool.and_eq_true, fitB, decide_eq_true_eq]
  exact this
/-- What FnPrograms compares. -/
structure FpOk (n : Int) (os : List (List Int)) : Prop where
  ok : okOps n os = true
  o8 : ∀ o ∈ os, o.length = 8
  val : ∀ j, j < os.length → opB (gl os j) = true
  kc : kcA os = kcUp os os.length
  kb : ∀ j, 0 ≤ gi (kcUp os os.length) j ∧ gi (kcUp os os.length) j ≤ os.length
  sum : sU (kcUp os os.length) 9 = (os.length : Int)
  lw : 1 ≤ lwA os ∧ lwA os ≤ n
  lwok : okOps (lwA os) os = true
  lwno : lwA os ≠ 1 → okOps (lwA os - 1) os = false
theorem fp_ok {n : Int} {M : Mac} {os : List (List Int)} (h : DrOk n M os) (hn : 2 ≤ n ∧ n ≤ 6) (hl : os.length ≤ 30) : FpOk n os := by
  have hv : ∀ j, j < os.length → opB (gl os j) = true ∧ gi (gl os j) 3 < n ∧ gi (gl os j) 5 < n := fun j hj => (h.ops _ (gl_mem hj)).2
  have h24 : okOps 24 os = true := okOps_off (by omega) (by omega) (by omega) fun j hj => ⟨(hv j hj).1, by have := (hv j hj).2; omega, by have := (hv j hj).2; omega⟩
  have hlw : lwA os = lwUp os os.length := by unfold lwA; rw [if_pos h24]
  have hb := lwUp_bd h24 os.length (Nat.le_refl _)
  refine ⟨okOps_off (by omega) (by omega) (by omega) hv, fun o ho => (h.ops o ho).1, fun j hj => (hv j hj).1, by unfold kcA; rw [if_pos h24], kcUp_bd os os.length, kc_sum (fun j hj => (op_bds (hv j hj).1).1) _ (Nat.le_refl _), ?_, ?_, ?_⟩
  · rw [hlw]
    exact ⟨hb.1, lw_mono (by omega) (fun j hj => (hv j hj).2) _ (Nat.le_refl _)⟩
  · rw [hlw]
    exact okOps_off hb.1 hb.2 (by omega) fun j hj => ⟨(hv j hj).1, lw_fits _ (Nat.le_refl _) j hj⟩
  · intro h1
    rw [hlw] at h1 ⊢
    cases hc : okOps (lwUp os os.length - 1) os
    · rfl
    · have h2 := (okOps_parts hc).2.2
      rcases lw_hit (os := os) os.length (Nat.le_refl _) with h3 | ⟨j, h3, h4⟩
      · exact absurd h3 h1
      · have := (h2 j h3).2
        omega
/-- A program's text is short. -/
theorem prU_short {n : Int} (hn : I64 n) {os : List (List Int)} (h : ∀ j, j < os.length → opB (gl os j) = true) : ∀ k, k ≤ os.length → (prU n os k).size ≤ 28 + 187 * k
  | 0, _ => by have := hdS_size hn; simpa [prU] using this
  | k + 1, hk => by
    have ih := prU_short hn h k (by omega)
    have h1 := opTx_size (h k (by omega))
    have h2 : (opT (gl os k)).size ≤ 186 := h1
    have h3 : nlB.size = 1 := rfl
    rw [prU, ByteArray.size_append, ByteArray.size_append]
    omega
theorem prT_pos (n : Int) (os : List (List Int)) : 0 < (prT n os).size := by
  have : ∀ k, 0 < (prU n os k).size := fun k => by
    induction k with
    | zero =>
      show 0 < (hdS n).size
      unfold hdS
      rw [ByteArray.size_append]
      have : nlB.size = 1 := rfl
      omega
    | succ k ih => rw [prU, ByteArray.size_append]; omega
  exact this _
theorem prR_yes {n : Int} {os : List (List Int)} (h : okOps n os = true) : prR n os = prT n os := by unfold prR; rw [if_pos h]
theorem prR_no {n : Int} {os : List (List Int)} (h : okOps n os = false) : prR n os = { data := #[] } := by unfold prR; rw [h]; rfl
/-- An element's cells, in every later world. -/
theorem SlR.opAtB {w : World} {B : Nat} {pb po n c : Nat} {os : List (List Int)} (h : SlR 8 w B (.slice (some ⟨pb, po, none⟩) n c) os) (hB : B ≤ w.heap.size) {k : Nat} (hk : k < os.length) :
    ∀ w', Below w.heap.size w w' → pb < w'.heap.size ∧ w'.cell? ⟨pb, po + k * 8, none⟩ = some (.int .i64 (gi (gl os k) 0)) ∧ w'.cell? ⟨pb, po + k * 8 + 1, none⟩ = some (.int .i64 (gi (gl os k) 1)) ∧ w'.cell? ⟨pb, po + k * 8 + 2, none⟩ = some (.int .i64 (gi (gl os k) 2)) ∧ w'.cell? ⟨pb, po + k * 8 + 3, none⟩ = some (.int .i64 (gi (gl os k) 3)) ∧ w'.cell? ⟨pb, po + k * 8 + 4, none⟩ = some (.int .i64 (gi (gl os k) 4)) ∧ w'.cell? ⟨pb, po + k * 8 + 5, none⟩ = some (.int .i64 (gi (gl os k) 5)) ∧ w'.cell? ⟨pb, po + k * 8 + 6, none⟩ = some (.int .i64 (gi (gl os k) 6)) ∧ w'.cell? ⟨pb, po + k * 8 + 7, none⟩ = some (.int .i64 (gi (gl os k) 7)) := fun w' hq => by
  obtain ⟨-, a⟩ := (h.below hq hB).opAt hk
  exact a
end Go.Proofs.YtgmppfhokfifgaaGreatDoor
