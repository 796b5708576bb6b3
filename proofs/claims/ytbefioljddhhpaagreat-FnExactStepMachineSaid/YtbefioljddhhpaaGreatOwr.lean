/-
  Rows of any element type that the call itself has made (OwR), bytes among them; a string out of bytes.
-/
import Derived.Test.YtbefioljddhhpaaGreatBase
namespace Go.Proofs.YtbefioljddhhpaaGreat
set_option maxRecDepth 10000
open Go.RowKit

/-- A row of n elements of type e (size cells each) that the call itself has made: its cells read us; its block lies from lo on and below hi. -/
def OwR (e : TypeId) (size : Nat) (w : World) (lo hi : Nat) (v : Value) (n : Nat) (us : List Value) : Prop :=
  w.ownsRow lo e size v n us ∧ ∀ g, v.ownBlock = some g → g < hi
section
variable {e : TypeId} {size : Nat} {w w' : World} {lo hi : Nat} {v : Value} {n : Nat} {us : List Value}
theorem OwR.keep (h : OwR e size w lo hi v n us) (hk : ∀ k, lo ≤ k → k < hi → w'.heap[k]? = w.heap[k]?) : OwR e size w' lo hi v n us := by
  obtain ⟨⟨h1, h2⟩, hi'⟩ := h
  refine ⟨⟨h1, ?_⟩, hi'⟩
  rcases h2 with h2 | ⟨g, cap, cur, rfl, hlo, hh, r⟩
  · exact .inl h2
  · exact .inr ⟨g, cap, cur, rfl, hlo, by rw [hk g hlo (hi' g rfl)]; exact hh, r⟩
theorem OwR.mono {lo' hi' : Nat} (h : OwR e size w lo hi v n us) (h1 : lo' ≤ lo) (h2 : hi ≤ hi') : OwR e size w lo' hi' v n us := by
  obtain ⟨⟨a, b⟩, c⟩ := h
  refine ⟨⟨a, ?_⟩, fun g hg => by have := c g hg; omega⟩
  rcases b with b | ⟨g, cap, cur, rfl, hlo, r⟩
  · exact .inl b
  · exact .inr ⟨g, cap, cur, rfl, by omega, r⟩
theorem OwR.below {B : Nat} (h : OwR e size w lo hi v n us) (hb : Below B w w') (hB : hi ≤ B) : OwR e size w' lo hi v n us := h.keep fun k _ hk => hb.block k (by omega)
theorem OwR.al (h : OwR e size w lo hi v n us) (hs : hi ≤ w.heap.size) (o : Obj) : OwR e size (w.alloc o) lo hi v n us := h.keep fun k _ hk => Below.heap_alloc _ _ _ (by omega)
theorem OwR.dr (h : OwR e size w lo hi v n us) (m : Nat) : OwR e size (w.drewN m) lo hi v n us := h
theorem OwR.of_own (h : w.ownsRow lo e size v n us) : OwR e size w lo w.heap.size v n us := ⟨h, fun g hg => (h.lt g hg).2⟩
theorem OwR.empty (e : TypeId) (size : Nat) (w : World) : OwR e size (w.alloc (.cells #[] e)) w.heap.size (w.alloc (.cells #[] e)).heap.size (.slice (some ⟨w.heap.size, 0, none⟩) 0 0) 0 [] :=
  OwR.of_own (World.ownsRow_made w #[] 0 (Nat.le_refl _) (by simp [maxLen]) (by simp))
theorem OwR.nil (e : TypeId) (size : Nat) (w : World) (lo hi : Nat) : OwR e size w lo hi (.slice none 0 0) 0 [] := ⟨World.ownsRow_nil w lo _ _, by simp [Value.ownBlock]⟩
theorem OwR.form (h : OwR e size w lo hi v n us) :
    (v = .slice none 0 0 ∧ n = 0 ∧ us = []) ∨ ∃ g cap, v = .slice (some ⟨g, 0, none⟩) n cap ∧ lo ≤ g ∧ g < hi ∧ n ≤ cap ∧ cap ≤ 9223372036854775807 ∧ us.length = n * size ∧
      ∀ (k : Nat) (u : Value), us[k]? = some u → w.cell? ⟨g, k, none⟩ = some u := by
  obtain ⟨h1, hi'⟩ := h
  have hl := h1.1
  rcases h1.2 with ⟨rfl, h0⟩ | ⟨g, cap, cur, rfl, hlo, hh, hn, hcap, hsz, htake⟩
  · subst h0
    exact .inl ⟨rfl, rfl, List.eq_nil_of_length_eq_zero (by simpa using hl)⟩
  · simp only [maxLen] at hcap
    exact .inr ⟨g, cap, rfl, hlo, hi' g rfl, hn, by omega, hl, fun k u hu => by rw [h1.cellAt k (by have := (List.getElem?_eq_some_iff.1 hu).1; omega), hu]⟩
theorem OwR.grown (h : OwR e size w lo hi v n us) (hg : w.grownBy w' v.ownBlock) {B : Nat} (hB : B ≤ lo) (hs : B ≤ w.heap.size) : Below B w w' :=
  ⟨hg.os, hg.tape, hg.output, hg.size, fun k hk => hg.block k (by omega) fun e => by have := (h.1.lt k e.symm).1; omega⟩
end


/-! ### Bytes and strings -/
end Go.Proofs.YtbefioljddhhpaaGreat
