/-
  Plain laws on reduced words: reducing depends on the class alone; inverses; cores. No program in sight.
-/
import Derived.Test.YtcoocjdkppdlmaaFns
namespace Go.Proofs.Ytcoocjdkppdlmaa
set_option maxRecDepth 10000

theorem nil_or_snoc (l : List Int) : l = [] ∨ ∃ l' x, l = l' ++ [x] := by
  rcases List.eq_nil_or_concat l with h | ⟨l', x, h⟩
  · exact .inl h
  · exact .inr ⟨l', x, by rw [h, List.concat_eq_append]⟩
/-- A word without neighbours that cancel. -/
def Rdc : List Int → Prop
  | [] => True
  | [_] => True
  | x :: y :: l => y ≠ -x ∧ Rdc (y :: l)
theorem Rdc.tail {x : Int} {l : List Int} (h : Rdc (x :: l)) : Rdc l := by
  cases l with
  | nil => trivial
  | cons y l => exact h.2
theorem rdc_append {a b : List Int} : Rdc (a ++ b) ↔ Rdc a ∧ Rdc b ∧ ∀ x y, a.getLast? = some x → b.head? = some y → y ≠ -x := by
  induction a with
  | nil => simp [Rdc]
  | cons z a ih =>
    cases a with
    | nil =>
      cases b with
      | nil => simp [Rdc]
      | cons y b =>
        simp only [List.cons_append, List.nil_append, Rdc, List.getLast?_singleton, Option.some.injEq, List.head?_cons, true_and]
        constructor
        · rintro ⟨h1, h2⟩
          exact ⟨h2, fun x' y' hx hy => by subst hx hy; exact h1⟩
        · rintro ⟨h2, h1⟩
          exact ⟨h1 z y rfl rfl, h2⟩
    | cons z' a =>
      have e : (z :: z' :: a).getLast? = (z' :: a).getLast? := by simp [List.getLast?_cons_cons]
      simp only [List.cons_append, Rdc, e] at ih ⊢
      rw [ih]
      constructor
      · rintro ⟨h1, h2, h3, h4⟩; exact ⟨⟨h1, h2⟩, h3, h4⟩
      · rintro ⟨⟨h1, h2⟩, h3, h4⟩; exact ⟨h1, h2, h3, h4⟩
theorem rdc_dropLast {l : List Int} (h : Rdc l) : Rdc l.dropLast := by
  rcases nil_or_snoc l with rfl | ⟨l', x, rfl⟩
  · exact h
  · rw [List.dropLast_concat]; exact (rdc_append.1 h).1
theorem rdc_push {out : List Int} (h : Rdc out) (k : Int) : Rdc (push out k) := by
  unfold push
  split
  · exact rdc_dropLast h
  · rename_i hn
    refine rdc_append.2 ⟨h, trivial, fun x y hx hy => ?_⟩
    simp only [List.head?_cons, Option.some.injEq] at hy
    subst hy
    intro e
    apply hn
    rw [hx, e]
    simp
theorem rdc_pushAll {out : List Int} (h : Rdc out) (xs : List Int) : Rdc (pushAll out xs) := by
  induction xs generalizing out with
  | nil => exact h
  | cons x xs ih => exact ih (rdc_push h x)
theorem rdc_red (xs : List Int) : Rdc (red xs) := rdc_pushAll (show Rdc [] from trivial) xs
/-- A letter and its inverse cancel. -/
theorem push_push {out : List Int} (h : Rdc out) (k : Int) : push (push out (-k)) k = out := by
  by_cases hl : out.getLast? = some k
  · have e1 : push out (-k) = out.dropLast := by unfold push; rw [if_pos (by rw [hl]; simp)]
    rw [e1]
    rcases nil_or_snoc out with rfl | ⟨l, x, rfl⟩
    · cases hl
    · simp only [List.getLast?_append, List.getLast?_singleton, Option.some_or, Option.some.injEq] at hl
      subst hl
      rw [List.dropLast_concat]
      unfold push
      rw [if_neg ?_]
      intro hc
      have := (rdc_append.1 h).2.2 (-x) x hc rfl
      simp at this
  · have e1 : push out (-k) = out ++ [-k] := by unfold push; rw [if_neg (by rw [Int.neg_neg]; exact hl)]
    rw [e1]
    unfold push
    rw [if_pos (by simp)]
    simp
theorem pushAll_append (out xs ys : List Int) : pushAll out (xs ++ ys) = pushAll (pushAll out xs) ys := by simp [pushAll]
theorem red_append (xs ys : List Int) : red (xs ++ ys) = pushAll (red xs) ys := pushAll_append [] xs ys
/-- Reducing first what is pushed makes no difference. -/
theorem pushAll_red {out : List Int} (h : Rdc out) (xs : List Int) : pushAll out (red xs) = pushAll out xs := by
  rcases nil_or_snoc xs with rfl | ⟨l, x, rfl⟩
  · rfl
  · have ih := pushAll_red h l
    have hlt : l.length < (l ++ [x]).length := by simp
    have e : red (l ++ [x]) = push (red l) x := pushAll_snoc _ _ _
    rw [e, pushAll_snoc, ← ih]
    by_cases hl : (red l).getLast? = some (-x)
    · have e2 : push (red l) x = (red l).dropLast := if_pos hl
      rw [e2]
      rcases nil_or_snoc (red l) with h0 | ⟨r, y, hr⟩
      · rw [h0] at hl; cases hl
      · rw [hr] at hl ⊢
        simp only [List.getLast?_append, List.getLast?_singleton, Option.some_or, Option.some.injEq] at hl
        subst hl
        rw [List.dropLast_concat, pushAll_snoc]
        exact (push_push (rdc_pushAll h r) x).symm
    · have e2 : push (red l) x = red l ++ [x] := if_neg hl
      rw [e2, pushAll_snoc]
termination_by xs.length
/-- What is reduced stays as it is. -/
theorem pushAll_of_rdc {out ys : List Int} (h : Rdc (out ++ ys)) : pushAll out ys = out ++ ys := by
  induction ys generalizing out with
  | nil => simp [pushAll]
  | cons y ys ih =>
    have e : push out y = out ++ [y] := by
      unfold push
      rw [if_neg ?_]
      intro hl
      have := (rdc_append.1 h).2.2 (-y) y hl rfl
      simp at this
    show pushAll (push out y) ys = _
    rw [e, ih (by simpa using h)]
    simp
theorem red_of_rdc {ys : List Int} (h : Rdc ys) : red ys = ys := pushAll_of_rdc (out := []) h
theorem red_red (xs : List Int) : red (red xs) = red xs := red_of_rdc (rdc_red xs)
theorem inv_snoc (xs : List Int) (k : Int) : inv (xs ++ [k]) = -k :: inv xs := by simp [inv]
theorem inv_append (xs ys : List Int) : inv (xs ++ ys) = inv ys ++ inv xs := by simp [inv]
theorem inv_len (xs : List Int) : (inv xs).length = xs.length := by simp [inv]
theorem inv_inv (xs : List Int) : inv (inv xs) = xs := by simp [inv, Function.comp_def]
theorem inv_head (xs : List Int) : (inv xs).head? = xs.getLast?.map (- ·) := by
  rcases nil_or_snoc xs with rfl | ⟨l, x, rfl⟩
  · rfl
  · rw [inv_snoc]; simp
theorem inv_last (xs : List Int) : (inv xs).getLast? = xs.head?.map (- ·) := by
  cases xs with
  | nil => rfl
  | cons x l => simp [inv]
theorem rdc_inv {xs : List Int} (h : Rdc xs) : Rdc (inv xs) := by
  induction xs with
  | nil => trivial
  | cons x l ih =>
    have e : inv (x :: l) = inv l ++ [-x] := by simp [inv]
    rw [e]
    refine rdc_append.2 ⟨ih h.tail, trivial, fun a b ha hb => ?_⟩
    rw [inv_last] at ha
    simp only [List.head?_cons, Option.some.injEq] at hb
    subst hb
    cases l with
    | nil => cases ha
    | cons y l =>
      simp only [List.head?_cons, Option.map_some, Option.some.injEq] at ha
      subst ha
      have := h.1
      omega
/-- The reduced word of the inverse is the inverse of the reduced word. -/
theorem red_inv (xs : List Int) : red (inv xs) = inv (red xs) := by
  rcases nil_or_snoc xs with rfl | ⟨l, k, rfl⟩
  · rfl
  · have ih := red_inv l
    have hlt : l.length < (l ++ [k]).length := by simp
    rw [inv_snoc, show (-k :: inv l) = [-k] ++ inv l from rfl, red_append, show red [-k] = [-k] from rfl, ← pushAll_red (out := [-k]) (show Rdc [-k] from trivial), ih]
    have e : red (l ++ [k]) = push (red l) k := pushAll_snoc _ _ _
    rw [e]
    have hr := rdc_red l
    by_cases hl : (red l).getLast? = some (-k)
    · have e2 : push (red l) k = (red l).dropLast := if_pos hl
      rw [e2]
      rcases nil_or_snoc (red l) with h0 | ⟨r, y, hr'⟩
      · rw [h0] at hl; cases hl
      · rw [hr'] at hl hr ⊢
        simp only [List.getLast?_append, List.getLast?_singleton, Option.some_or, Option.some.injEq] at hl
        subst hl
        rw [List.dropLast_concat, inv_snoc, Int.neg_neg]
        have e3 : pushAll [-k] (k :: inv r) = pushAll [] (inv r) := by
          show pushAll (push [-k] k) (inv r) = _
          unfold push
          simp
        rw [e3]
        exact red_of_rdc (rdc_inv (rdc_append.1 hr).1)
    · have e2 : push (red l) k = red l ++ [k] := if_neg hl
      rw [e2, inv_snoc]
      refine pushAll_of_rdc (out := [-k]) (rdc_append.2 ⟨trivial, rdc_inv hr, fun x y hx hy => ?_⟩)
      simp only [List.getLast?_singleton, Option.some.injEq] at hx
      subst hx
      rw [inv_head] at hy
      cases hg : (red l).getLast? with
      | none => rw [hg] at hy; cases hy
      | some z =>
        rw [hg] at hy hl
        simp only [Option.map_some, Option.some.injEq] at hy hl
        omega
termination_by xs.length

/-- The first k below n at which p fails; n if there is none. -/
def stop (p : Nat → Bool) : Nat → Nat
  | 0 => 0
  | n + 1 => if stop p n < n then stop p n else if p n = true then n + 1 else n
theorem stop_le (p : Nat → Bool) (n : Nat) : stop p n ≤ n := by
  induction n with
  | zero => exact Nat.le_refl _
  | succ n ih => unfold stop; split <;> (try split) <;> omega
theorem stop_eq {p : Nat → Bool} {k n : Nat} (hk : k ≤ n) (h1 : ∀ j, j < k → p j = true) (h2 : k < n → p k = false) : stop p n = k := by
  induction n with
  | zero => simp [stop]; omega
  | succ n ih =>
    unfold stop
    by_cases hkn : k ≤ n
    · have := ih hkn fun h => h2 (by omega)
      rw [this]
      by_cases hlt : k < n
      · rw [if_pos hlt]
      · obtain rfl : k = n := by omega
        rw [if_neg (by omega), h2 (by omega)]
        rfl
    · obtain rfl : k = n + 1 := by omega
      have hn : stop p n = n := by
        clear ih h2
        have aux : ∀ m, m ≤ n → stop p m = m := by
          intro m
          induction m with
          | zero => intro _; rfl
          | succ m ihm =>
            intro hm
            unfold stop
            rw [ihm (by omega), if_neg (by omega), h1 m (by omega)]
            rfl
        exact aux n (Nat.le_refl _)
      rw [hn, if_neg (by omega), h1 n (by omega)]
      rfl
/-- Do the k-th letter and the k-th one from the end cancel? -/
def coreP (xs : List Int) (k : Nat) : Bool := decide (2 * k + 1 < xs.length) && (gi xs k == -gi xs (xs.length - 1 - k))
def coreN (xs : List Int) : Nat := stop (coreP xs) xs.length
def coreA (xs : List Int) : List Int := xs.take (coreN xs)
def coreB (xs : List Int) : List Int := (xs.drop (coreN xs)).take (xs.length - 2 * coreN xs)
end Go.Proofs.Ytcoocjdkppdlmaa
