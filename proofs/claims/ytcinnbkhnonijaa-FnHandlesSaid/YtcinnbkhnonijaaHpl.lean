/-
  Plain law: reducing a handle keeps the braid; a word without handles holds its main letter with one sign only; what this says of trivial braids and of the order. No program in sight.
-/
import Derived.Test.YtcinnbkhnonijaaMth
import Derived.Test.YtcinnbkhnonijaaHnd
namespace Go.Proofs.Ytcinnbkhnonijaa
set_option maxRecDepth 10000

theorem gq_swap {n x y : Int} (hx : x ≠ 0 ∧ 1 - n ≤ x ∧ x ≤ n - 1) (hy : y ≠ 0 ∧ 1 - n ≤ y ∧ y ≤ n - 1) (h : ab x + 2 ≤ ab y ∨ ab y + 2 ≤ ab x) : (GQ.mk [x] * GQ.mk [y] : BG n) = GQ.mk [y] * GQ.mk [x] := by
  have pp : ∀ i j : Int, 0 < i → 0 < j → i < n → j < n → (i + 2 ≤ j ∨ j + 2 ≤ i) → (bs i * bs j : BG n) = bs j * bs i := by
    intro i j hi hj hi2 hj2 h
    rcases h with h | h
    · exact bs_comm hi h hj2
    · exact (bs_comm hj h hi2).symm
  have pn : ∀ i y : Int, 0 < i → i < n → (y ≠ 0 ∧ 1 - n ≤ y ∧ y ≤ n - 1) → (i + 2 ≤ ab y ∨ ab y + 2 ≤ i) → (bs i * GQ.mk [y] : BG n) = GQ.mk [y] * bs i := by
    intro i y hi hi2 hy h
    by_cases h0 : 0 < y
    · rw [ab_pos_ h0] at h
      exact pp i y hi h0 hi2 (by omega) h
    · obtain ⟨z, rfl⟩ : ∃ z, y = -z := ⟨-y, by omega⟩
      rw [ab_neg_ (by omega)] at h
      exact GQ.comm_inv (pp i z hi (by omega) hi2 (by omega) h)
  by_cases h0 : 0 < x
  · rw [ab_pos_ h0] at h
    exact pn x y h0 (by omega) hy h
  · obtain ⟨z, rfl⟩ : ∃ z, x = -z := ⟨-x, by omega⟩
    rw [ab_neg_ (by omega)] at h
    exact (GQ.comm_inv (pn z y (by omega) (by omega) hy h).symm).symm
/-- A letter's sign. -/
theorem letter_sg {k : Int} (_ : k ≠ 0) : k = sg k * ab k ∧ (sg k = 1 ∨ sg k = -1) := by
  unfold sg ab
  split <;> omega
theorem braid_conj {n : Int} {a b : BG n} (t : a * (b * a) = b * (a * b)) : a.inv * b * a = b * a * b.inv ∧ a * b * a.inv = b.inv * a * b := by
  constructor
  · apply GQ.left_cancel (a := a)
    apply GQ.right_cancel (a := b)
    simp only [GQ.mul_assoc, GQ.mul_inv_left, GQ.inv_mul, GQ.mul_one]
    exact t.symm
  · apply GQ.left_cancel (a := b)
    apply GQ.right_cancel (a := a)
    simp only [GQ.mul_assoc, GQ.mul_inv_left, GQ.inv_mul, GQ.mul_one]
    exact t.symm
theorem conj_flip {n : Int} {x y z w : BG n} (h : x * y * x.inv = z * w * z.inv) : x * y.inv * x.inv = z * w.inv * z.inv := by
  have := congrArg GQ.inv h
  simpa [GQ.mul_assoc] using this
theorem out_conj {n : Int} {x y z : BG n} (h : x * y * x.inv = z) : x * y = z * x := by rw [← h]; simp [GQ.mul_assoc]
theorem sub_letter {n j e k : Int} (hj : 0 < j) (he : e = 1 ∨ e = -1) (hjn : j < n) (hk : k ≠ 0 ∧ 1 - n ≤ k ∧ k ≤ n - 1) (h1 : ab k ≠ j) (h2 : ab k ≠ j - 1) :
    (GQ.mk [e * j] * GQ.mk [k] : BG n) = GQ.mk (hSub j e k) * GQ.mk [e * j] := by
  unfold hSub
  by_cases h3 : ab k = j + 1
  · rw [if_pos h3]
    obtain ⟨hd, hd2⟩ := letter_sg hk.1
    generalize sg k = d at hd hd2
    have hj1 : j + 1 < n := by unfold ab at h3; omega
    have ek : (GQ.mk [k] : BG n) = GQ.mk [d * (j + 1)] := by rw [hd, h3]
    rw [ek]
    show GQ.mk [e * j] * GQ.mk [d * (j + 1)] = (GQ.mk [-e * (j + 1)] * (GQ.mk [d * j] * GQ.mk [e * (j + 1)]) : BG n) * GQ.mk [e * j]
    have p1 : ∀ i : Int, (GQ.mk [1 * i] : BG n) = bs i := fun i => by rw [Int.one_mul]; rfl
    have p2 : ∀ i : Int, (GQ.mk [-1 * i] : BG n) = (bs i).inv := fun i => by rw [Int.neg_one_mul]; rfl
    have p3 : ∀ i : Int, (GQ.mk [- -1 * i] : BG n) = bs i := fun i => by rw [show - -1 * i = i by omega]; rfl
    obtain ⟨u, v⟩ := braid_conj (n := n) (a := bs j) (b := bs (j + 1)) (by have := bs_braid (n := n) hj hj1; simpa [GQ.mul_assoc] using this)
    have u1 : (bs j).inv * bs (j + 1) * (bs j).inv.inv = bs (j + 1) * bs j * (bs (j + 1) : BG n).inv := by rw [GQ.inv_inv]; exact u
    have v1 : bs j * bs (j + 1) * (bs j).inv = (bs (j + 1)).inv * bs j * (bs (j + 1) : BG n).inv.inv := by rw [GQ.inv_inv]; exact v
    rcases he with rfl | rfl <;> rcases hd2 with rfl | rfl
    · simp only [p1, p2]; refine (out_conj v1).trans ?_; simp [GQ.mul_assoc]
    · simp only [p1, p2]; refine (out_conj (conj_flip v1)).trans ?_; simp [GQ.mul_assoc]
    · simp only [p1, p2, p3]; refine (out_conj u1).trans ?_; simp [GQ.mul_assoc]
    · simp only [p2, p3]; refine (out_conj (conj_flip u1)).trans ?_; simp [GQ.mul_assoc]
  · rw [if_neg h3]
    refine gq_swap ?_ hk ?_
    · rcases he with rfl | rfl <;> omega
    · have : ab (e * j) = j := by unfold ab; rcases he with rfl | rfl <;> omega
      rw [this]
      have := ab_pos hk.1
      omega
theorem sub_mid {n j e : Int} (hj : 0 < j) (he : e = 1 ∨ e = -1) (hjn : j < n) (l : List Int) (hl : In n l) (h : ∀ k ∈ l, ab k ≠ j ∧ ab k ≠ j - 1) :
    (GQ.mk [e * j] * GQ.mk l : BG n) = GQ.mk (l.flatMap (hSub j e)) * GQ.mk [e * j] := by
  induction l with
  | nil => rw [List.flatMap_nil, GQ.mk_nil, GQ.mul_one, GQ.one_mul]
  | cons k l ih =>
    have h1 := h k (by simp)
    have h2 := sub_letter hj he hjn (hl k (by simp)) h1.1 h1.2
    rw [GQ.mk_cons k l, ← GQ.mul_assoc, h2, GQ.mul_assoc, ih (fun x hx => hl x (by simp [hx])) fun x hx => h x (by simp [hx]), List.flatMap_cons, GQ.mk_append, GQ.mul_assoc]
/-- Reducing a handle keeps the braid. -/
theorem hRed_gen {n : Int} {xs : List Int} {f t : Nat} (hx : In n xs) (hf : f < t) (ht : t < xs.length) (he : endsH xs f t = true) : Gen (BrR n) (hRed xs f t) xs := by
  rw [endsH_iff] at he
  obtain ⟨e1, e2⟩ := he
  have hxf := hx _ (gi_mem (show f < xs.length by omega))
  obtain ⟨s1, s2⟩ := letter_sg hxf.1
  have hj := ab_pos hxf.1
  have hjn : ab (gi xs f) < n := by unfold ab; omega
  have hab : ab (gi xs t) = ab (gi xs f) := by unfold ab; omega
  have split_ : xs = xs.take f ++ ([gi xs f] ++ (hMid xs f t ++ ([gi xs t] ++ xs.drop (t + 1)))) := by
    have a1 : hMid xs f t ++ xs.drop t = xs.drop (f + 1) := by
      unfold hMid
      have : (xs.drop (f + 1)).drop (t - f - 1) = xs.drop t := by rw [List.drop_drop]; congr 1; omega
      rw [← this, List.take_append_drop]
    have a2 : [gi xs t] ++ xs.drop (t + 1) = xs.drop t := (drop_gi ht).symm
    rw [a2, a1]
    have a3 : [gi xs f] ++ xs.drop (f + 1) = xs.drop f := (drop_gi (by omega)).symm
    rw [a3, List.take_append_drop]
  have hmid : ∀ k ∈ hMid xs f t, (k ≠ 0 ∧ 1 - n ≤ k ∧ k ≤ n - 1) ∧ ab k ≠ ab (gi xs f) ∧ ab k ≠ ab (gi xs f) - 1 := by
    intro k hk
    unfold hMid at hk
    obtain ⟨i, hi, rfl⟩ := List.getElem_of_mem hk
    have hi2 : i < t - f - 1 := by simp at hi; omega
    rw [List.getElem_take, List.getElem_drop, ← gi_eq (by omega)]
    have h3 := e2 (f + 1 + i) (by omega) (by omega)
    rw [hab] at h3
    exact ⟨hx _ (gi_mem (by omega)), h3⟩
  have key := sub_mid (n := n) hj s2 hjn (hMid xs f t) (fun k hk => (hmid k hk).1) fun k hk => (hmid k hk).2
  apply GQ.eq.1
  have e3 : (GQ.mk [gi xs t] : BG n) = (GQ.mk [sg (gi xs f) * ab (gi xs f)]).inv := by rw [← s1, ← GQ.mk_neg, e1, Int.neg_neg]
  have e4 : (GQ.mk [gi xs f] : BG n) = GQ.mk [sg (gi xs f) * ab (gi xs f)] := by rw [← s1]
  have e5 : (GQ.mk xs : BG n) = GQ.mk (xs.take f) * (GQ.mk [gi xs f] * (GQ.mk (hMid xs f t) * (GQ.mk [gi xs t] * GQ.mk (xs.drop (t + 1))))) := congrArg GQ.mk split_
  rw [e5, e3, e4, ← GQ.mul_assoc (GQ.mk [sg (gi xs f) * ab (gi xs f)]), key]
  unfold hRed
  rw [GQ.mk_append, GQ.mk_append]
  simp [GQ.mul_assoc]
theorem hRed_in {n : Int} {xs : List Int} {f t : Nat} (hx : In n xs) (hf : f < t) (ht : t < xs.length) : In n (hRed xs f t) := by
  have hxf := hx _ (gi_mem (show f < xs.length by omega))
  intro y hy
  unfold hRed at hy
  rcases List.mem_append.1 hy with hy | hy
  · rcases List.mem_append.1 hy with hy | hy
    · exact hx y (List.mem_of_mem_take hy)
    · obtain ⟨k, hk, hy⟩ := List.mem_flatMap.1 hy
      have hk1 := hx k (List.mem_of_mem_drop (List.mem_of_mem_take hk))
      unfold hSub at hy
      split at hy
      · rename_i h3
        have h4 := ab_pos hxf.1
        have hd := (letter_sg hk1.1).2
        have he := (letter_sg hxf.1).2
        have h5 : ab (gi xs f) + 1 ≤ n - 1 := by unfold ab at h3 ⊢; omega
        simp only [List.mem_cons, List.not_mem_nil, or_false] at hy
        generalize ab (gi xs f) = j at *
        rcases hy with rfl | rfl | rfl
        · rcases he with e | e <;> rw [e] <;> omega
        · rcases hd with e | e <;> rw [e] <;> omega
        · rcases he with e | e <;> rw [e] <;> omega
      · simp at hy
        subst hy
        exact hk1
  · exact hx y (List.mem_of_mem_drop hy)
theorem isH_ends {xs : List Int} {f t : Nat} (hf : f < t) (ht : t < xs.length) (h0 : gi xs t ≠ 0) : isH xs f t = endsH xs f t := by
  rw [ends_to h0 hf, isH, inR_yes (by omega) (by omega)]
  simp
theorem firstT_ends {n : Int} {xs : List Int} (hx : In n xs) {t : Nat} (h : firstT xs = some t) : t < xs.length ∧ hFn xs t < t ∧ endsH xs (hFn xs t) t = true := by
  obtain ⟨h1, h2, -⟩ := firstT_is h
  have h3 := (hTo_bd xs t).2
  refine ⟨h1, by unfold hFn; omega, ?_⟩
  have h4 := (hx _ (gi_mem h1)).1
  rw [ends_to h4 (by unfold hFn; omega), decide_eq_true_eq]
  unfold hFn
  omega
/-- The whole reduction: an equal braid, without handles. -/
theorem hLoop_gen {n : Int} {b : Nat} {xs : List Int} {p : List Int × Nat} (hx : In n xs) (h : hLoop b xs = some p) : Gen (BrR n) p.1 xs ∧ In n p.1 ∧ firstT p.1 = none ∧ p.2 ≤ b := by
  induction b generalizing xs p with
  | zero =>
    cases hf : firstT xs with
    | none => rw [hLoop_none hf] at h; cases h; exact ⟨.refl _, hx, hf, Nat.le_refl _⟩
    | some t => rw [hLoop_zero hf] at h; cases h
  | succ b ih =>
    cases hf : firstT xs with
    | none => rw [hLoop_none hf] at h; cases h; exact ⟨.refl _, hx, hf, Nat.zero_le _⟩
    | some t =>
      obtain ⟨h1, h2, h3⟩ := firstT_ends hx hf
      by_cases hl : (hRed xs (hFn xs t) t).length ≤ 4000
      · rw [hLoop_on hf hl] at h
        cases hq : hLoop b (hRed xs (hFn xs t) t) with
        | none => rw [hq] at h; cases h
        | some q =>
          rw [hq] at h
          cases h
          obtain ⟨i1, i2, i3, i4⟩ := ih (hRed_in hx h2 h1) hq
          exact ⟨i1.trans (hRed_gen hx h2 h1 h3), i2, i3, Nat.succ_le_succ i4⟩
      · rw [hLoop_long hf hl] at h; cases h
/-! ### The main letter -/
theorem handle_between {xs : List Int} (hx : ∀ x ∈ xs, x ≠ 0) {m : Int} (hm : ∀ x ∈ xs, m ≤ ab x) (d i k : Nat) (hd : k = i + d + 1) (hk : k < xs.length) (h : gi xs i = -gi xs k) (ha : ab (gi xs k) = m) :
    ∃ t, t < xs.length ∧ 0 ≤ hTo xs t := by
  by_cases hb : ∃ l, i < l ∧ l < k ∧ ab (gi xs l) = m
  · obtain ⟨l, l1, l2, l3⟩ := hb
    by_cases e : gi xs l = gi xs i
    · exact handle_between hx hm (k - l - 1) l k (by omega) hk (by rw [e, h]) ha
    · exact handle_between hx hm (l - i - 1) i l (by omega) (by omega) (by unfold ab at *; omega) l3
  · refine ⟨k, hk, ?_⟩
    have h0 := hx _ (gi_mem hk)
    have he : endsH xs i k = true := by
      rw [endsH_iff]
      refine ⟨h, fun l l1 l2 => ⟨fun e => hb ⟨l, l1, l2, by rw [e, ha]⟩, fun e => ?_⟩⟩
      have := hm _ (gi_mem (show l < xs.length by omega))
      omega
    rw [ends_to h0 (by omega), decide_eq_true_eq] at he
    omega
termination_by d
/-- A word without handles is empty, or has its main letter with one sign only. -/
theorem pure_of_none {xs : List Int} (hx : ∀ x ∈ xs, x ≠ 0) (h : firstT xs = none) : pureL xs = !xs.isEmpty := by
  rcases mainL_min hx with ⟨rfl, -⟩ | ⟨h1, h2, h3⟩
  · rfl
  · have hne : xs.isEmpty = false := by cases xs with | nil => cases h2 | cons => rfl
    unfold pureL
    rw [hne]
    simp only [Bool.not_false, Bool.true_and, List.all_eq_true, bne_iff_ne, ne_eq]
    intro y hy e
    subst e
    obtain ⟨i, hi, e1⟩ := List.getElem_of_mem h2
    obtain ⟨k, hk, e2⟩ := List.getElem_of_mem hy
    rw [← gi_eq hi] at e1
    rw [← gi_eq hk] at e2
    have hno := firstT_no h
    have hik : i ≠ k := fun e => by subst e; omega
    have key : ∃ t, t < xs.length ∧ 0 ≤ hTo xs t := by
      by_cases hlt : i < k
      · exact handle_between hx h3 (k - i - 1) i k (by omega) hk (by omega) (by unfold ab; omega)
      · exact handle_between hx h3 (i - k - 1) k i (by omega) hi (by omega) (by unfold ab; omega)
    obtain ⟨t, ht, ht2⟩ := key
    have := hno t ht
    omega
/-- What the main letter says: with one sign only. -/
theorem pure_parts {xs : List Int} (hx : ∀ x ∈ xs, x ≠ 0) (h : pureL xs = true) : mainL xs ≠ 0 ∧ mainL xs ∈ xs ∧ ∀ x ∈ xs, ab (mainL xs) ≤ ab x ∧ x ≠ -mainL xs := by
  unfold pureL at h
  simp only [Bool.and_eq_true, List.all_eq_true, bne_iff_ne, ne_eq] at h
  rcases mainL_min hx with ⟨rfl, -⟩ | ⟨h1, h2, h3⟩
  · simp at h
  · exact ⟨h1, h2, fun x hx => ⟨h3 x hx, h.2 x hx⟩⟩
/-- Positive for m: no letter below m, no inverse of m, and m. -/
def PosM (m : Int) (xs : List Int) : Prop := 0 < m ∧ (∀ x ∈ xs, m ≤ ab x ∧ x ≠ -m) ∧ m ∈ xs
theorem PosM.ne {n m : Int} {xs : List Int} (h : PosM m xs) : ¬ Gen (BrR n) xs [] := main_ne h.1 xs h.2.1 h.2.2
theorem PosM.mul {m k : Int} {xs ys : List Int} (h : PosM m xs) (h2 : PosM k ys) : ∃ l, PosM l (xs ++ ys) := by
  obtain ⟨a1, a2, a3⟩ := h
  obtain ⟨b1, b2, b3⟩ := h2
  by_cases hc : m ≤ k
  · refine ⟨m, a1, fun x hx => ?_, by simp [a3]⟩
    rcases List.mem_append.1 hx with hx | hx
    · exact a2 x hx
    · have := b2 x hx
      exact ⟨by omega, fun e => by subst e; rw [ab_neg_ a1] at this; omega⟩
  · refine ⟨k, b1, fun x hx => ?_, by simp [b3]⟩
    rcases List.mem_append.1 hx with hx | hx
    · have := a2 x hx
      exact ⟨by omega, fun e => by subst e; rw [ab_neg_ b1] at this; omega⟩
    · exact b2 x hx
theorem posM_main {xs : List Int} (hx : ∀ x ∈ xs, x ≠ 0) (h : pureL xs = true) (h0 : 0 < mainL xs) : PosM (mainL xs) xs := by
  obtain ⟨h1, h2, h3⟩ := pure_parts hx h
  refine ⟨h0, fun x hx => ?_, h2⟩
  have := h3 x hx
  rw [ab_pos_ h0] at this
  exact this
theorem posM_inv {xs : List Int} (hx : ∀ x ∈ xs, x ≠ 0) (h : pureL xs = true) (h0 : mainL xs < 0) : PosM (-mainL xs) (inv xs) := by
  obtain ⟨h1, h2, h3⟩ := pure_parts hx h
  refine ⟨by omega, fun x hx => ?_, ?_⟩
  · have := h3 (-x) (inv_mem hx)
    unfold ab at this ⊢
    omega
  · simp only [inv, List.mem_reverse, List.mem_map]
    exact ⟨_, h2, rfl⟩
/-- The sign of a word without handles: positive, negative, or empty. -/
theorem none_cases {xs : List Int} (hx : ∀ x ∈ xs, x ≠ 0) (h : firstT xs = none) : (xs = [] ∧ mainV xs = 0) ∨ (0 < mainV xs ∧ ∃ m, PosM m xs) ∨ (mainV xs < 0 ∧ ∃ m, PosM m (inv xs)) := by
  have hp := pure_of_none hx h
  cases xs with
  | nil => exact .inl ⟨rfl, rfl⟩
  | cons x l =>
    have hp : pureL (x :: l) = true := hp
    right
    have hm : mainV (x :: l) = mainL (x :: l) := by unfold mainV; rw [if_pos hp]
    rw [hm]
    have := (pure_parts hx hp).1
    by_cases h0 : 0 < mainL (x :: l)
    · exact .inl ⟨h0, _, posM_main hx hp h0⟩
    · exact .inr ⟨by omega, _, posM_inv hx hp (by omega)⟩
/-- Equal braids have words without handles of one sign. -/
theorem same_sign {n : Int} {xs ys : List Int} (hx : ∀ x ∈ xs, x ≠ 0) (hy : ∀ x ∈ ys, x ≠ 0) (h1 : firstT xs = none) (h2 : firstT ys = none) (h : Gen (BrR n) xs ys) :
    (xs = [] ∧ ys = []) ∨ (0 < mainV xs ∧ 0 < mainV ys) ∨ (mainV xs < 0 ∧ mainV ys < 0) := by
  rcases none_cases hx h1 with ⟨rfl, -⟩ | ⟨a, m, hm⟩ | ⟨a, m, hm⟩ <;> rcases none_cases hy h2 with ⟨rfl, -⟩ | ⟨b, k, hk⟩ | ⟨b, k, hk⟩
  · exact .inl ⟨rfl, rfl⟩
  · exact (hk.ne h.symm).elim
  · exact (hk.ne h.inv.symm).elim
  · exact (hm.ne h).elim
  · exact .inr (.inl ⟨a, b⟩)
  · obtain ⟨l, hl⟩ := hm.mul hk
    exact (hl.ne ((h.right (inv ys)).trans (Gen.inv_r ys))).elim
  · exact (hm.ne h.inv).elim
  · obtain ⟨l, hl⟩ := hk.mul hm
    exact (hl.ne ((h.symm.right (inv xs)).trans (Gen.inv_r xs))).elim
  · exact .inr (.inr ⟨a, b⟩)
end Go.Proofs.Ytcinnbkhnonijaa
