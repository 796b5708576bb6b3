/-
  Plain laws: numbers put to their places among rising ones (putI, putAll), and sorting.
-/
import Derived.Test.YtbefioljddhhpaaBase
namespace Go.Proofs.Ytbefioljddhhpaa
set_option maxRecDepth 10000

/-- A number put to its place among rising ones, once. -/
def putI : List Int → Int → List Int
  | [], n => [n]
  | x :: xs, n => if n < x then n :: x :: xs else if x = n then x :: xs else x :: putI xs n
def putAll (dr xs : List Int) : List Int := xs.foldl putI dr
/-! ### putAll -/
theorem putI_cnt {dr : List Int} {n : Int} (hn : n ∉ dr) (x : Int) : (putI dr n).count x = dr.count x + [n].count x := by
  induction dr with
  | nil => simp [putI]
  | cons a l ih =>
    simp only [List.mem_cons, not_or] at hn
    have := ih hn.2
    unfold putI
    split
    · simp only [List.count_cons, List.count_nil]; omega
    · rw [if_neg (fun e => hn.1 e.symm)]
      simp only [List.count_cons, List.count_nil] at this ⊢
      omega
theorem putI_pair {dr : List Int} {n : Int} (h : dr.Pairwise (· < ·)) : (putI dr n).Pairwise (· < ·) := by
  induction dr with
  | nil => simp [putI]
  | cons a l ih =>
    rw [List.pairwise_cons] at h
    have mem : ∀ (l : List Int) (y : Int), y ∈ putI l n → y ∈ l ∨ y = n := by
      intro l
      induction l with
      | nil => intro y hy; simp [putI] at hy; exact .inr hy
      | cons b l ih =>
        intro y hy
        unfold putI at hy
        split at hy
        · simp at hy ⊢; rcases hy with rfl | rfl | hy <;> simp_all
        · split at hy
          · simp at hy ⊢; rcases hy with rfl | hy <;> simp_all
          · simp only [List.mem_cons] at hy ⊢
            rcases hy with rfl | hy
            · simp
            · rcases ih y hy with q | q
              · exact .inl (.inr q)
              · exact .inr q
    unfold putI
    split
    · rename_i hlt
      rw [List.pairwise_cons]
      refine ⟨fun y hy => ?_, List.pairwise_cons.2 h⟩
      simp only [List.mem_cons] at hy
      rcases hy with rfl | hy
      · exact hlt
      · have := h.1 y hy; omega
    · split
      · exact List.pairwise_cons.2 h
      · rw [List.pairwise_cons]
        refine ⟨fun y hy => ?_, ih h.2⟩
        rcases mem _ _ hy with q | rfl
        · exact h.1 y q
        · omega
theorem putAll_cnt {dr xs : List Int} (h : ∀ x, dr.count x + xs.count x ≤ 1) (x : Int) : (putAll dr xs).count x = dr.count x + xs.count x := by
  induction xs generalizing dr with
  | nil => simp [putAll]
  | cons a l ih =>
    have hn : a ∉ dr := fun hm => by
      have h1 := h a
      have h2 := List.count_pos_iff.2 hm
      simp only [List.count_cons, beq_self_eq_true, if_true] at h1
      omega
    have hc := putI_cnt hn
    have := ih (dr := putI dr a) (fun y => by have := h y; rw [hc]; simp only [List.count_cons, List.count_nil] at *; omega)
    unfold putAll at this ⊢
    rw [List.foldl_cons, this, hc]
    simp only [List.count_cons, List.count_nil]
    omega
theorem putAll_pair {dr xs : List Int} (h : dr.Pairwise (· < ·)) : (putAll dr xs).Pairwise (· < ·) := by
  induction xs generalizing dr with
  | nil => exact h
  | cons a l ih => unfold putAll; rw [List.foldl_cons]; exact ih (putI_pair h)
theorem putI_mem {l : List Int} {n y : Int} : y ∈ putI l n ↔ y ∈ l ∨ y = n := by
  induction l with
  | nil => simp [putI]
  | cons b l ih =>
    unfold putI
    split
    · simp only [List.mem_cons]; exact Or.comm
    · split
      · rename_i e; simp only [List.mem_cons]; constructor
        · intro h; exact .inl h
        · intro h; rcases h with h | h
          · exact h
          · exact .inl (by rw [h, e])
      · simp only [List.mem_cons, ih]; exact or_assoc.symm
theorem putAll_mem {l xs : List Int} {y : Int} : y ∈ putAll l xs ↔ y ∈ l ∨ y ∈ xs := by
  induction xs generalizing l with
  | nil => simp [putAll]
  | cons a t ih =>
    have := ih (l := putI l a)
    unfold putAll at this ⊢
    rw [List.foldl_cons, this, putI_mem, List.mem_cons]
    exact or_assoc
/-- Rising lists of the same numbers are equal. -/
theorem rising_ext {a b : List Int} (ha : a.Pairwise (· < ·)) (hb : b.Pairwise (· < ·)) (h : ∀ x, x ∈ a ↔ x ∈ b) : a = b := by
  induction a generalizing b with
  | nil => cases b with
    | nil => rfl
    | cons y t => exact absurd ((h y).2 (by simp)) (by simp)
  | cons x s ih =>
    cases b with
    | nil => exact absurd ((h x).1 (by simp)) (by simp)
    | cons y t =>
      rw [List.pairwise_cons] at ha hb
      have h1 := (h x).1 (by simp)
      have h2 := (h y).2 (by simp)
      rw [List.mem_cons] at h1 h2
      have e : x = y := by
        rcases h1 with h1 | h1
        · exact h1
        · rcases h2 with h2 | h2
          · exact h2.symm
          · have := ha.1 y h2; have := hb.1 x h1; omega
      subst e
      congr 1
      refine ih ha.2 hb.2 fun z => ?_
      constructor
      · intro hz
        have h3 := (h z).1 (by simp [hz])
        rw [List.mem_cons] at h3
        rcases h3 with h3 | h3
        · subst h3; have := ha.1 z hz; omega
        · exact h3
      · intro hz
        have h3 := (h z).2 (by simp [hz])
        rw [List.mem_cons] at h3
        rcases h3 with h3 | h3
        · subst h3; have := hb.1 z hz; omega
        · exact h3
theorem putI_take {xs : List Int} {k : Nat} (h : k < xs.length) : putAll [] (xs.take (k + 1)) = putI (putAll [] (xs.take k)) (gi xs k) := by
  rw [take_gi h]; simp [putAll]
theorem putI_len (l : List Int) (n : Int) : (putI l n).length ≤ l.length + 1 := by
  induction l with
  | nil => simp [putI]
  | cons a t ih => unfold putI; split <;> (try split) <;> simp <;> omega
end Go.Proofs.Ytbefioljddhhpaa
