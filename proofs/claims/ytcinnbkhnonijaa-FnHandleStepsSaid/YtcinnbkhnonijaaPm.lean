/-
  Plain law: permutations, their letters in front and behind, and lists of them in which letters move to the left: such moves end, and end in one list. No program in sight.
-/
import Derived.Test.YtcinnbkhnonijaaLar
namespace Go.Proofs.Ytcinnbkhnonijaa
set_option maxRecDepth 10000

structure Pm where
  f : Int → Int
  g : Int → Int
  fg : ∀ x, f (g x) = x
  gf : ∀ x, g (f x) = x
theorem Pm.ext_ {p q : Pm} (h : ∀ x, p.f x = q.f x) : p = q := by
  have h1 : p.f = q.f := funext h
  have h2 : p.g = q.g := funext fun x => by
    have := q.gf (p.g x)
    rw [← h1, p.fg] at this
    exact this.symm
  cases p; cases q
  simp only at h1 h2
  subst h1 h2
  rfl
theorem Pm.inj {p : Pm} {x y : Int} (h : p.f x = p.f y) : x = y := by have := congrArg p.g h; rwa [p.gf, p.gf] at this
theorem Pm.ginj {p : Pm} {x y : Int} (h : p.g x = p.g y) : x = y := by have := congrArg p.f h; rwa [p.fg, p.fg] at this
/-- k - 1 and k are exchanged. -/
def tr (k x : Int) : Int := if x = k - 1 then k else if x = k then k - 1 else x
theorem tr_tr (k x : Int) : tr k (tr k x) = x := by unfold tr; split <;> (try split) <;> (try split) <;> omega
theorem tr_lt {k x y : Int} (h : x < y) : tr k x < tr k y ∨ (x = k - 1 ∧ y = k) := by unfold tr; split <;> split <;> (try split) <;> (try split) <;> omega
theorem tr_lo (k : Int) : tr k (k - 1) = k := by unfold tr; rw [if_pos rfl]
theorem tr_hi (k : Int) : tr k k = k - 1 := by unfold tr; rw [if_neg (by omega), if_pos rfl]
theorem tr_no {k x : Int} (h1 : x ≠ k - 1) (h2 : x ≠ k) : tr k x = x := by unfold tr; rw [if_neg h1, if_neg h2]
def pOne : Pm := ⟨fun x => x, fun x => x, fun _ => rfl, fun _ => rfl⟩
/-- A letter in front, and one behind. -/
def bef (k : Int) (p : Pm) : Pm := ⟨fun x => p.f (tr k x), fun x => tr k (p.g x), fun x => by simp only [tr_tr, p.fg], fun x => by simp only [p.gf, tr_tr]⟩
def beh (p : Pm) (k : Int) : Pm := ⟨fun x => tr k (p.f x), fun x => p.g (tr k x), fun x => by simp only [p.fg, tr_tr], fun x => by simp only [tr_tr, p.gf]⟩
def Sta (k : Int) (p : Pm) : Prop := p.f k < p.f (k - 1)
def Fi (k : Int) (p : Pm) : Prop := p.g k < p.g (k - 1)
theorem not_fi {k : Int} {p : Pm} (h : ¬ Fi k p) : p.g (k - 1) < p.g k := by
  unfold Fi at h
  by_cases e : p.g (k - 1) = p.g k
  · have := Pm.ginj e; omega
  · omega
theorem bef_beh (k l : Int) (p : Pm) : bef k (beh p l) = beh (bef k p) l := rfl
theorem bef_bef (k : Int) (p : Pm) : bef k (bef k p) = p := Pm.ext_ fun x => by show p.f (tr k (tr k x)) = _; rw [tr_tr]
theorem fi_bef {k l : Int} {q : Pm} (h1 : Sta k q) (h2 : ¬ Fi l q) : ¬ Fi l (bef k q) := by
  intro h
  have h3 := not_fi h2
  have h4 : tr k (q.g l) < tr k (q.g (l - 1)) := h
  rcases tr_lt (k := k) h3 with h5 | ⟨h5, h6⟩
  · omega
  · have e1 := q.fg (l - 1)
    have e2 := q.fg l
    rw [h5] at e1
    rw [h6] at e2
    unfold Sta at h1
    omega
theorem sta_beh {k l : Int} {q : Pm} (h1 : Sta k q) (h2 : ¬ Fi l q) : Sta k (beh q l) := by
  show tr l (q.f k) < tr l (q.f (k - 1))
  rcases tr_lt (k := l) h1 with h5 | ⟨h5, h6⟩
  · exact h5
  · have e1 := q.gf k
    have e2 := q.gf (k - 1)
    rw [h5] at e1
    rw [h6] at e2
    have := not_fi h2
    omega
theorem sta_far {k l : Int} {q : Pm} (h : k + 2 ≤ l ∨ l + 2 ≤ k) : Sta l (bef k q) ↔ Sta l q := by
  show q.f (tr k l) < q.f (tr k (l - 1)) ↔ _
  rw [tr_no (by omega) (by omega), tr_no (by omega) (by omega)]; rfl
theorem fi_far {k l : Int} {q : Pm} (h : k + 2 ≤ l ∨ l + 2 ≤ k) : Fi l (beh q k) ↔ Fi l q := by
  show q.g (tr k l) < q.g (tr k (l - 1)) ↔ _
  rw [tr_no (by omega) (by omega), tr_no (by omega) (by omega)]; rfl
theorem tr_far {k l : Int} (h : k + 2 ≤ l ∨ l + 2 ≤ k) (x : Int) : tr k (tr l x) = tr l (tr k x) := by
  unfold tr
  by_cases h1 : x = k - 1
  · rw [if_neg (show ¬ x = l - 1 by omega), if_neg (show ¬ x = l by omega), if_pos h1, if_neg (by omega), if_neg (by omega)]
  · by_cases h2 : x = k
    · rw [if_neg (show ¬ x = l - 1 by omega), if_neg (show ¬ x = l by omega), if_neg h1, if_pos h2, if_neg (by omega), if_neg (by omega)]
    · rw [if_neg h1, if_neg h2]
      split
      · rw [if_neg (by omega), if_neg (by omega)]
      · split
        · rw [if_neg (by omega), if_neg (by omega)]
        · rfl
theorem tr_three (k x : Int) : tr k (tr (k + 1) (tr k x)) = tr (k + 1) (tr k (tr (k + 1) x)) := by
  by_cases h1 : x = k - 1
  · subst h1
    rw [tr_lo, show tr (k + 1) k = k + 1 by unfold tr; rw [if_pos (by omega)], tr_no (k := k) (by omega) (by omega), tr_no (k := k + 1) (x := k - 1) (by omega) (by omega), tr_lo, show tr (k + 1) k = k + 1 by unfold tr; rw [if_pos (by omega)]]
  · by_cases h2 : x = k
    · subst h2
      rw [tr_hi, tr_no (k := x + 1) (x := x - 1) (by omega) (by omega), tr_lo, show tr (x + 1) x = x + 1 by unfold tr; rw [if_pos (by omega)], tr_no (k := x) (x := x + 1) (by omega) (by omega), tr_hi]; omega
    · by_cases h3 : x = k + 1
      · subst h3
        rw [tr_no (k := k) (x := k + 1) (by omega) (by omega), tr_hi, show k + 1 - 1 = k by omega, tr_hi, tr_no (k := k + 1) (x := k - 1) (by omega) (by omega)]
      · rw [tr_no h1 h2, tr_no (k := k + 1) (by omega) h3, tr_no h1 h2, tr_no (k := k + 1) (by omega) h3]
/-- All but the numbers from 0 below n stay. -/
def Sup (n : Int) (p : Pm) : Prop := ∀ x, (x < 0 ∨ n ≤ x) → p.f x = x
theorem Sup.g {n : Int} {p : Pm} (h : Sup n p) : ∀ x, (x < 0 ∨ n ≤ x) → p.g x = x := fun x hx => by have := p.gf x; rwa [h x hx] at this
theorem Sup.rg {n : Int} {p : Pm} (h : Sup n p) {x : Int} (h0 : 0 ≤ x) (h1 : x < n) : 0 ≤ p.f x ∧ p.f x < n := by
  by_cases hc : p.f x < 0 ∨ n ≤ p.f x
  · have := p.inj (h _ hc)
    omega
  · omega
theorem Sup.rgg {n : Int} {p : Pm} (h : Sup n p) {x : Int} (h0 : 0 ≤ x) (h1 : x < n) : 0 ≤ p.g x ∧ p.g x < n := by
  by_cases hc : p.g x < 0 ∨ n ≤ p.g x
  · have := p.ginj (h.g _ hc)
    omega
  · omega
theorem Sup.one (n : Int) : Sup n pOne := fun _ _ => rfl
theorem Sup.bef {n k : Int} {p : Pm} (h : Sup n p) (h0 : 0 < k) (h1 : k < n) : Sup n (bef k p) := fun x hx => by
  show p.f (tr k x) = x
  rw [tr_no (by omega) (by omega), h x hx]
theorem Sup.beh {n k : Int} {p : Pm} (h : Sup n p) (h0 : 0 < k) (h1 : k < n) : Sup n (beh p k) := fun x hx => by
  show tr k (p.f x) = x
  rw [h x hx, tr_no (by omega) (by omega)]
/-! ### Moves -/
inductive Mv (n : Int) : List Pm → List Pm → Prop
  | here (p q : Pm) (r : List Pm) (k : Int) : 0 < k → k < n → ¬ Fi k p → Sta k q → Mv n (p :: q :: r) (beh p k :: bef k q :: r)
  | cons (p : Pm) {a b : List Pm} : Mv n a b → Mv n (p :: a) (p :: b)
inductive Mvs (n : Int) : List Pm → List Pm → Prop
  | refl (a : List Pm) : Mvs n a a
  | head {a b c : List Pm} : Mv n a b → Mvs n b c → Mvs n a c
section
variable {n : Int}
theorem Mvs.trans {a b c : List Pm} (h : Mvs n a b) (k : Mvs n b c) : Mvs n a c := by
  induction h with
  | refl a => exact k
  | head h _ ih => exact .head h (ih k)
theorem Mvs.one {a b : List Pm} (h : Mv n a b) : Mvs n a b := .head h (.refl _)
theorem Mvs.cons (p : Pm) {a b : List Pm} (h : Mvs n a b) : Mvs n (p :: a) (p :: b) := by
  induction h with
  | refl a => exact .refl _
  | head h _ ih => exact .head (.cons p h) ih
theorem Mvs.left (l : List Pm) {a b : List Pm} (h : Mvs n a b) : Mvs n (l ++ a) (l ++ b) := by
  induction l with
  | nil => exact h
  | cons p l ih => exact ih.cons p
theorem Mv.right (r : List Pm) {a b : List Pm} (h : Mv n a b) : Mv n (a ++ r) (b ++ r) := by
  induction h with
  | here p q s k h0 h1 h2 h3 => exact .here p q (s ++ r) k h0 h1 h2 h3
  | cons p _ ih => exact .cons p ih
theorem Mvs.right (r : List Pm) {a b : List Pm} (h : Mvs n a b) : Mvs n (a ++ r) (b ++ r) := by
  induction h with
  | refl a => exact .refl _
  | head h _ ih => exact .head (h.right r) ih
theorem Mv.len {a b : List Pm} (h : Mv n a b) : b.length = a.length := by
  induction h with
  | here => rfl
  | cons p _ ih => simp [ih]
def Sups (n : Int) (a : List Pm) : Prop := ∀ p ∈ a, Sup n p
theorem Mv.sups {a b : List Pm} (h : Mv n a b) (hs : Sups n a) : Sups n b := by
  induction h with
  | here p q r k h0 h1 h2 h3 =>
    intro x hx
    rcases List.mem_cons.1 hx with rfl | hx
    · exact (hs p (by simp)).beh h0 h1
    · rcases List.mem_cons.1 hx with rfl | hx
      · exact (hs q (by simp)).bef h0 h1
      · exact hs x (by simp [hx])
  | cons p _ ih =>
    intro x hx
    rcases List.mem_cons.1 hx with rfl | hx
    · exact hs x (by simp)
    · exact ih (fun y hy => hs y (by simp [hy])) x hx
theorem Mvs.sups {a b : List Pm} (h : Mvs n a b) (hs : Sups n a) : Sups n b := by
  induction h with
  | refl a => exact hs
  | head h _ ih => exact ih (h.sups hs)
/-- Two letters that both may move: their moves meet again. -/
theorem meet_here (p q : Pm) (r : List Pm) (k l : Int) (k0 : 0 < k) (k1 : k < n) (hk : ¬ Fi k p) (sk : Sta k q) (l0 : 0 < l) (l1 : l < n) (hl : ¬ Fi l p) (sl : Sta l q) (hkl : k < l) :
    ∃ d, Mvs n (beh p k :: bef k q :: r) d ∧ Mvs n (beh p l :: bef l q :: r) d := by
  by_cases h : k + 2 ≤ l
  · refine ⟨beh (beh p k) l :: bef l (bef k q) :: r, .one (.here _ _ _ l l0 l1 (by rw [fi_far (.inl h)]; exact hl) ((sta_far (.inl h)).2 sl)), ?_⟩
    have e1 : beh (beh p k) l = beh (beh p l) k := Pm.ext_ fun x => (tr_far (.inl h) (p.f x)).symm
    have e2 : bef l (bef k q) = bef k (bef l q) := Pm.ext_ fun x => by show q.f (tr k (tr l x)) = q.f (tr l (tr k x)); rw [tr_far (.inl h)]
    rw [e1, e2]
    exact .one (.here _ _ _ k k0 k1 (by rw [fi_far (.inr h)]; exact hk) ((sta_far (.inr h)).2 sk))
  · obtain rfl : l = k + 1 := by omega
    have nk := not_fi hk
    have nl := not_fi hl
    rw [show k + 1 - 1 = k by omega] at nl
    have sk' : q.f k < q.f (k - 1) := sk
    have sl' : q.f (k + 1) < q.f k := by have : q.f (k + 1) < q.f (k + 1 - 1) := sl; rwa [show k + 1 - 1 = k by omega] at this
    have t1 : tr (k + 1) k = k + 1 := by unfold tr; rw [if_pos (by omega)]
    have t2 : tr (k + 1) (k + 1) = k := by rw [tr_hi]; omega
    have t3 : tr k (k + 1) = k + 1 := tr_no (by omega) (by omega)
    have t4 : tr (k + 1) (k - 1) = k - 1 := tr_no (by omega) (by omega)
    have ee : k + 1 - 1 = k := by omega
    have u1 : Mvs n (beh p k :: bef k q :: r) (beh (beh (beh p k) (k + 1)) k :: bef k (bef (k + 1) (bef k q)) :: r) := by
      refine .head (.here _ _ _ (k + 1) l0 l1 ?_ ?_) (.one (.here _ _ _ k k0 k1 ?_ ?_))
      · show ¬ p.g (tr k (k + 1)) < p.g (tr k (k + 1 - 1))
        rw [ee, t3, tr_hi]; omega
      · show q.f (tr k (k + 1)) < q.f (tr k (k + 1 - 1))
        rw [ee, t3, tr_hi]; omega
      · show ¬ p.g (tr k (tr (k + 1) k)) < p.g (tr k (tr (k + 1) (k - 1)))
        rw [t1, t3, t4, tr_lo]; omega
      · show q.f (tr k (tr (k + 1) k)) < q.f (tr k (tr (k + 1) (k - 1)))
        rw [t1, t3, t4, tr_lo]; exact sl'
    have u2 : Mvs n (beh p (k + 1) :: bef (k + 1) q :: r) (beh (beh (beh p (k + 1)) k) (k + 1) :: bef (k + 1) (bef k (bef (k + 1) q)) :: r) := by
      refine .head (.here _ _ _ k k0 k1 ?_ ?_) (.one (.here _ _ _ (k + 1) l0 l1 ?_ ?_))
      · show ¬ p.g (tr (k + 1) k) < p.g (tr (k + 1) (k - 1))
        rw [t1, t4]; omega
      · show q.f (tr (k + 1) k) < q.f (tr (k + 1) (k - 1))
        rw [t1, t4]; omega
      · show ¬ p.g (tr (k + 1) (tr k (k + 1))) < p.g (tr (k + 1) (tr k (k + 1 - 1)))
        rw [ee, t3, t2, tr_hi, t4]; omega
      · show q.f (tr (k + 1) (tr k (k + 1))) < q.f (tr (k + 1) (tr k (k + 1 - 1)))
        rw [ee, t3, t2, tr_hi, t4]; exact sk'
    have e1 : beh (beh (beh p k) (k + 1)) k = beh (beh (beh p (k + 1)) k) (k + 1) := Pm.ext_ fun x => tr_three k (p.f x)
    have e2 : bef k (bef (k + 1) (bef k q)) = bef (k + 1) (bef k (bef (k + 1) q)) := Pm.ext_ fun x => by
      show q.f (tr k (tr (k + 1) (tr k x))) = q.f (tr (k + 1) (tr k (tr (k + 1) x)))
      rw [tr_three]
    rw [e1, e2] at u1
    exact ⟨_, u1, u2⟩
theorem mv_meet {a b c : List Pm} (h : Mv n a b) (h' : Mv n a c) : ∃ d, Mvs n b d ∧ Mvs n c d := by
  induction h generalizing c with
  | here p q r k k0 k1 hk sk =>
    cases h' with
    | here _ _ _ l l0 l1 hl sl =>
      by_cases e : k = l
      · subst e; exact ⟨_, .refl _, .refl _⟩
      · by_cases hkl : k < l
        · exact meet_here p q r k l k0 k1 hk sk l0 l1 hl sl hkl
        · obtain ⟨d, d1, d2⟩ := meet_here p q r l k l0 l1 hl sl k0 k1 hk sk (by omega)
          exact ⟨d, d2, d1⟩
    | cons _ h2 =>
      cases h2 with
      | here _ q2 r2 l l0 l1 hl sl =>
        exact ⟨beh p k :: beh (bef k q) l :: bef l q2 :: r2, .one (.cons _ (.here _ _ _ l l0 l1 (fi_bef sk hl) sl)), .one (.here _ _ _ k k0 k1 hk (sta_beh sk hl))⟩
      | @cons _ _ b2 h3 => exact ⟨beh p k :: bef k q :: b2, .one (.cons _ (.cons _ h3)), .one (.here _ _ _ k k0 k1 hk sk)⟩
  | @cons p a b h ih =>
    cases h' with
    | here _ q r k k0 k1 hk sk =>
      cases h with
      | here _ q2 r2 l l0 l1 hl sl =>
        exact ⟨beh p k :: beh (bef k q) l :: bef l q2 :: r2, .one (.here _ _ _ k k0 k1 hk (sta_beh sk hl)), .one (.cons _ (.here _ _ _ l l0 l1 (fi_bef sk hl) sl))⟩
      | @cons _ _ b2 h3 => exact ⟨beh p k :: bef k q :: b2, .one (.here _ _ _ k k0 k1 hk sk), .one (.cons _ (.cons _ h3))⟩
    | cons _ h2 =>
      obtain ⟨d, d1, d2⟩ := ih h2
      exact ⟨p :: d, d1.cons p, d2.cons p⟩
end
/-! ### Moves end -/
def sumW : Nat → (Int → Int) → Int
  | 0, _ => 0
  | m + 1, h => sumW m h + m * h m
theorem sumW_low (h : Int → Int) (k : Int) (m : Nat) (hm : (m : Int) ≤ k - 1) : sumW m (fun x => h (tr k x)) = sumW m h := by
  induction m with
  | zero => rfl
  | succ m ih => rw [sumW, sumW, ih (by omega), tr_no (by omega) (by omega)]
theorem sumW_swap (h : Int → Int) (k : Int) (h0 : 0 < k) (m : Nat) (hm : k < m) : sumW m (fun x => h (tr k x)) = sumW m h + (h (k - 1) - h k) := by
  induction m with
  | zero => omega
  | succ m ih =>
    by_cases hk : k < m
    · rw [sumW, sumW, ih hk, tr_no (by omega) (by omega)]; omega
    · obtain rfl : k = m := by omega
      obtain ⟨j, rfl⟩ : ∃ j, m = j + 1 := ⟨m - 1, by omega⟩
      rw [sumW, sumW, sumW, sumW, sumW_low h _ j (by omega), tr_hi, show ((j : Nat) : Int) = ((j + 1 : Nat) : Int) - 1 by omega, tr_lo]
      generalize h (((j + 1 : Nat) : Int) - 1) = a
      generalize h ((j + 1 : Nat) : Int) = b
      generalize sumW j h = s
      rw [show ((j + 1 : Nat) : Int) = (j : Int) + 1 by omega]
      simp only [Int.add_mul, Int.one_mul, Int.add_sub_cancel]
      omega
theorem sumW_bd (h : Int → Int) (b : Int) (hb : ∀ x : Int, 0 ≤ x → x < b → 0 ≤ h x ∧ h x ≤ b) (m : Nat) (hm : (m : Int) ≤ b) : 0 ≤ sumW m h ∧ sumW m h ≤ m * (b * b) := by
  induction m with
  | zero => simp [sumW]
  | succ m ih =>
    have h1 := ih (by omega)
    have h2 := hb m (by omega) (by omega)
    have h3 : (m : Int) * h m ≤ b * b := by
      have a1 : (m : Int) * h m ≤ m * b := Int.mul_le_mul_of_nonneg_left h2.2 (by omega)
      have a2 : (m : Int) * b ≤ b * b := Int.mul_le_mul_of_nonneg_right (by omega) (by omega)
      omega
    have h4 : 0 ≤ (m : Int) * h m := Int.mul_nonneg (by omega) h2.1
    rw [sumW, show ((m + 1 : Nat) : Int) * (b * b) = m * (b * b) + b * b by rw [show ((m + 1 : Nat) : Int) = (m : Int) + 1 by omega, Int.add_mul, Int.one_mul]]
    omega
/-- The weight of a permutation of numbers below n, and a bound. -/
def wt (n : Nat) (p : Pm) : Nat := (sumW n p.g).toNat
def wtB (n : Nat) : Nat := n * (n * n) + 1
theorem wt_lt {n : Nat} {p : Pm} (h : Sup n p) : wt n p < wtB n ∧ (wt n p : Int) = sumW n p.g := by
  have := sumW_bd p.g n (fun x h0 h1 => by have := h.rgg h0 h1; omega) n (Int.le_refl _)
  have h2 : ((n * (n * n) : Nat) : Int) = n * (n * n) := by simp
  unfold wt wtB
  omega
theorem wt_beh {n : Nat} {p : Pm} {k : Int} (h : Sup n p) (h0 : 0 < k) (h1 : k < n) (h2 : ¬ Fi k p) : wt n (beh p k) + 1 ≤ wt n p := by
  have e := sumW_swap p.g k h0 n h1
  have a := (wt_lt h).2
  have b := (wt_lt (h.beh h0 h1)).2
  have c := not_fi h2
  have d : sumW n (beh p k).g = sumW n fun x => p.g (tr k x) := rfl
  omega
def wtL (n : Nat) : List Pm → Nat
  | [] => 0
  | p :: r => wt n p * wtB n ^ r.length + wtL n r
theorem wtL_mv {n : Nat} {a b : List Pm} (h : Mv n a b) (hs : Sups n a) : wtL n b < wtL n a := by
  induction h with
  | here p q r k h0 h1 h2 h3 =>
    have e1 := wt_beh (hs p (by simp)) h0 h1 h2
    have e2 := (wt_lt ((hs q (by simp)).bef h0 h1)).1
    have hX : 0 < wtB n ^ r.length := Nat.pow_pos (by unfold wtB; omega)
    simp only [wtL, List.length_cons, Nat.pow_succ]
    generalize wtB n ^ r.length = X at *
    generalize wt n (beh p k) = W' at *
    generalize wt n (bef k q) = V' at *
    generalize wt n p = W at *
    generalize wt n q = V at *
    generalize wtB n = C at *
    have a1 : (W' + 1) * (X * C) ≤ W * (X * C) := Nat.mul_le_mul_right _ e1
    rw [Nat.add_mul, Nat.one_mul] at a1
    have a2 : (V' + 1) * X ≤ C * X := Nat.mul_le_mul_right _ e2
    rw [Nat.add_mul, Nat.one_mul, Nat.mul_comm C X] at a2
    omega
  | cons p h ih =>
    have := ih fun x hx => hs x (by simp [hx])
    simp only [wtL, h.len]
    omega
def Irr (n : Int) (a : List Pm) : Prop := ∀ b, ¬ Mv n a b
theorem irr_ex (n : Nat) (a : List Pm) (hs : Sups n a) : ∃ b, Mvs n a b ∧ Irr n b := by
  by_cases h : ∃ b, Mv n a b
  · obtain ⟨b, hb⟩ := h
    have hlt := wtL_mv hb hs
    obtain ⟨c, hc, hi⟩ := irr_ex n b (hb.sups hs)
    exact ⟨c, .head hb hc, hi⟩
  · exact ⟨a, .refl a, fun b hb => h ⟨b, hb⟩⟩
termination_by wtL n a
theorem newman {n : Nat} (a : List Pm) (hs : Sups n a) {b c : List Pm} (h : Mvs n a b) (h' : Mvs n a c) : ∃ d, Mvs n b d ∧ Mvs n c d := by
  cases h with
  | refl => exact ⟨c, h', .refl _⟩
  | @head _ b1 _ hb hb2 =>
    cases h' with
    | refl => exact ⟨b, .refl _, .head hb hb2⟩
    | @head _ c1 _ hc hc2 =>
      have l1 := wtL_mv hb hs
      have l2 := wtL_mv hc hs
      obtain ⟨d, d1, d2⟩ := mv_meet hb hc
      obtain ⟨e, e1, e2⟩ := newman b1 (hb.sups hs) hb2 d1
      obtain ⟨f, f1, f2⟩ := newman c1 (hc.sups hs) hc2 (d2.trans e2)
      exact ⟨f, e1.trans f2, f1⟩
termination_by wtL n a
/-- Lists that moves bring together. -/
def Jn (n : Int) (a b : List Pm) : Prop := ∃ d, Mvs n a d ∧ Mvs n b d
theorem Jn.refl {n : Int} (a : List Pm) : Jn n a a := ⟨a, .refl _, .refl _⟩
theorem Jn.symm {n : Int} {a b : List Pm} (h : Jn n a b) : Jn n b a := h.elim fun d h => ⟨d, h.2, h.1⟩
theorem Jn.of {n : Int} {a b : List Pm} (h : Mvs n a b) : Jn n a b := ⟨b, h, .refl _⟩
theorem Jn.trans {n : Nat} {a b c : List Pm} (h : Jn n a b) (k : Jn n b c) (hs : Sups n b) : Jn n a c := by
  obtain ⟨d, d1, d2⟩ := h
  obtain ⟨e, e1, e2⟩ := k
  obtain ⟨f, f1, f2⟩ := newman b hs d2 e1
  exact ⟨f, d1.trans f1, e2.trans f2⟩
theorem Jn.left {n : Int} (l : List Pm) {a b : List Pm} (h : Jn n a b) : Jn n (l ++ a) (l ++ b) := h.elim fun _ h => ⟨_, h.1.left l, h.2.left l⟩
theorem Jn.right {n : Int} (r : List Pm) {a b : List Pm} (h : Jn n a b) : Jn n (a ++ r) (b ++ r) := h.elim fun _ h => ⟨_, h.1.right r, h.2.right r⟩
theorem Irr.mvs {n : Int} {a b : List Pm} (h : Irr n a) (k : Mvs n a b) : b = a := by
  cases k with
  | refl => rfl
  | head hb _ => exact (h _ hb).elim
theorem Jn.irr {n : Int} {a b : List Pm} (h : Jn n a b) (ha : Irr n a) (hb : Irr n b) : a = b := by
  obtain ⟨d, d1, d2⟩ := h
  rw [← ha.mvs d1, ← hb.mvs d2]
end Go.Proofs.Ytcinnbkhnonijaa
