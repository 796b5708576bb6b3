/-
  Contracts: MirrorProgram and ShiftProgram of the reference.
-/
import Derived.Test.YtgmppfhokfifgaaPo5
namespace Go.Proofs.Ytgmppfhokfifgaa
set_option maxRecDepth 10000
open Go.RowKit

def mixM (f : List Int → List Int) (os : List (List Int)) (k : Nat) : List (List Int) := (os.take k).map f ++ os.drop k
theorem mixM_zero (f : List Int → List Int) (os : List (List Int)) : mixM f os 0 = os := by simp [mixM]
theorem mixM_all (f : List Int → List Int) (os : List (List Int)) : mixM f os os.length = os.map f := by simp [mixM]
theorem mixM_len (f : List Int → List Int) (os : List (List Int)) (k : Nat) : (mixM f os k).length = os.length := by simp [mixM]; omega
theorem mixM_gl (f : List Int → List Int) (os : List (List Int)) (k : Nat) (h : k < os.length) : gl (mixM f os k) k = gl os k := by
  rw [gl_eq (by rw [mixM_len]; exact h), gl_eq h]
  simp only [mixM]
  rw [List.getElem_append_right (by simp; omega)]
  simp [Nat.min_eq_left (Nat.le_of_lt h)]
theorem mixM_set (f : List Int → List Int) (os : List (List Int)) (k : Nat) (h : k < os.length) : (mixM f os k).set k (f (gl os k)) = mixM f os (k + 1) := by
  have hl : ((os.take k).map f).length = k := by simp; omega
  rw [mixM, mixM, drop_gl h, List.set_append_right _ _ (by omega), hl, Nat.sub_self, List.set_cons_zero, take_gl h, List.map_append, List.append_assoc]
  rfl
def mpA (w : Int) (os : List (List Int)) : List (List Int) × Int := if okOps w os = true then (os.map (mirO w), 0) else ([], 1)
/-- Two numbers of an element laid anew. -/
theorem OwT.set2 {s : Nat} {e : TypeId} {w : World} {lo hi : Nat} {g n cap : Nat} {os : List (List Int)} (h : OwT s e w lo hi (.slice (some ⟨g, 0, none⟩) n cap) os) (hn : os.length = n) (k i j : Nat) (hk : k < os.length) (hi' : i < s) (hj : j < s) (x y : Int) :
    OwT s e ((w.setCell ⟨g, k * s + i, none⟩ (.int .i64 x)).setCell ⟨g, k * s + j, none⟩ (.int .i64 y)) lo hi (.slice (some ⟨g, 0, none⟩) n cap) (os.set k (((gl os k).set i x).set j y)) ∧ Chg lo hi w ((w.setCell ⟨g, k * s + i, none⟩ (.int .i64 x)).setCell ⟨g, k * s + j, none⟩ (.int .i64 y)) := by
  obtain ⟨-, -, o0, d0⟩ := h.set1 hn k i hk hi' x
  obtain ⟨-, -, o1, d1⟩ := o0.set1 (by simpa using hn) k j (by simpa using hk) hj y
  rw [gl_set hk, List.set_set] at o1
  exact ⟨o1, d0.trans d1⟩
end Go.Proofs.Ytgmppfhokfifgaa
