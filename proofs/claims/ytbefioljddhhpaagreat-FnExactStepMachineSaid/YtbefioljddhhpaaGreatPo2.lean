/-
  Contracts of the laws' helpers on slices of operations: szOpS, toOpS, eqOpS, markOpS, heldOpS.
-/
import Derived.Test.YtbefioljddhhpaaGreatPo
import Derived.Test.YtbefioljddhhpaaGreatInts
namespace Go.Proofs.YtbefioljddhhpaaGreat
set_option maxRecDepth 10000
open Go.RowKit

/-- A row of the call's own, of elements of s numbers each. -/
def OwT (s : Nat) (e : TypeId) (w : World) (lo hi : Nat) (v : Value) (os : List (List Int)) : Prop := OwR e s w lo hi v os.length (vals os.flatten) ∧ ∀ o ∈ os, o.length = s
theorem flat_len {s : Nat} {os : List (List Int)} (h : ∀ o ∈ os, o.length = s) : os.flatten.length = os.length * s := by
  induction os with
  | nil => simp
  | cons a t ih => rw [List.flatten_cons, List.length_append, ih fun o ho => h o (by simp [ho]), h a (by simp), List.length_cons, Nat.succ_mul, Nat.add_comm]
theorem flat_gi {s : Nat} {os : List (List Int)} (h : ∀ o ∈ os, o.length = s) {k j : Nat} (hk : k < os.length) (hj : j < s) : gi os.flatten (k * s + j) = gi (gl os k) j := by
  induction os generalizing k with
  | nil => simp at hk
  | cons a t ih =>
    have ha := h a (by simp)
    rw [List.flatten_cons]
    cases k with
    | zero => simp only [Nat.zero_mul, Nat.zero_add]; simp [gi, gl, List.getElem?_append_left (show j < a.length by omega)]
    | succ k =>
      have := ih (fun o ho => h o (by simp [ho])) (k := k) (by simpa using hk)
      have e : (k + 1) * s + j = a.length + (k * s + j) := by rw [ha, Nat.succ_mul]; omega
      rw [e]
      simp only [gi, gl, List.getD_cons_succ] at this ⊢
      rw [← this]
      simp [List.getD, List.getElem?_append_right (Nat.le_add_right _ _)]
theorem OwT.sl {s : Nat} {e : TypeId} {w : World} {lo hi B : Nat} {v : Value} {os : List (List Int)} (h : OwT s e w lo hi v os) (hB : hi ≤ B) : SlR s w B v os := by
  obtain ⟨h1, h2⟩ := h
  rcases h1.form with ⟨rfl, h0, _⟩ | ⟨g, cap, rfl, hlo, hhi, hn, hcap, hl, hc⟩
  · obtain rfl := List.eq_nil_of_length_eq_zero h0
    exact SlR.nil s w B
  · refine ⟨_, cap, rfl, hn, by simp only [maxLen]; omega, ⟨h2, fun h => by cases h⟩, fun hp => ⟨g, 0, rfl, by omega, fun k hk j hj => ?_⟩⟩
    have hlt : k * s + j < os.length * s := by
      have : (k + 1) * s ≤ os.length * s := Nat.mul_le_mul_right s hk
      rw [Nat.succ_mul] at this
      omega
    rw [Nat.zero_add]
    refine hc _ _ ?_
    rw [vals_get (by rw [flat_len h2]; exact hlt), flat_gi h2 hk hj]
theorem OwT.keep {s : Nat} {e : TypeId} {w w' : World} {lo hi : Nat} {v : Value} {os : List (List Int)} (h : OwT s e w lo hi v os) (hk : ∀ k, lo ≤ k → k < hi → w'.heap[k]? = w.heap[k]?) : OwT s e w' lo hi v os := ⟨h.1.keep hk, h.2⟩
theorem OwT.mono {s : Nat} {e : TypeId} {w : World} {lo hi lo' hi' : Nat} {v : Value} {os : List (List Int)} (h : OwT s e w lo hi v os) (h1 : lo' ≤ lo) (h2 : hi ≤ hi') : OwT s e w lo' hi' v os := ⟨h.1.mono h1 h2, h.2⟩
theorem OwT.below {s : Nat} {e : TypeId} {w w' : World} {lo hi B : Nat} {v : Value} {os : List (List Int)} (h : OwT s e w lo hi v os) (hb : Below B w w') (hB : hi ≤ B) : OwT s e w' lo hi v os := ⟨h.1.below hb hB, h.2⟩
theorem OwT.nil (s : Nat) (e : TypeId) (w : World) (lo hi : Nat) : OwT s e w lo hi (.slice none 0 0) [] := ⟨OwR.nil e s w lo hi, by simp⟩
theorem gl_set {os : List (List Int)} {k : Nat} (h : k < os.length) (o : List Int) : gl (os.set k o) k = o := by simp [gl, List.getD, h]
theorem OwT.shape {s : Nat} {e : TypeId} {w : World} {lo hi : Nat} {v : Value} {os : List (List Int)} (h : OwT s e w lo hi v os) (hp : 0 < os.length) : ∃ g cap, v = .slice (some ⟨g, 0, none⟩) os.length cap ∧ lo ≤ g ∧ g < hi := by
  rcases h.1.form with ⟨rfl, h0, _⟩ | ⟨g, cap, rfl, hlo, hhi, _⟩
  · omega
  · exact ⟨g, cap, rfl, hlo, hhi⟩
end Go.Proofs.YtbefioljddhhpaaGreat
