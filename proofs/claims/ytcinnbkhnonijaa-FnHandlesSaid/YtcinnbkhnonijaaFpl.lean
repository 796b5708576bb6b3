/-
  The plain laws of FnArtin, FnHandles and FnOrderBraids.
-/
import Derived.Test.YtcinnbkhnonijaaGw3
import Derived.Test.YtcinnbkhnonijaaHpl
import Derived.Test.YtcinnbkhnonijaaHand3
import Derived.Test.YtcinnbkhnonijaaArt6
namespace Go.Proofs.Ytcinnbkhnonijaa
set_option maxRecDepth 10000

theorem actGo_phi {ls word r : List Int} (hls : ∀ l ∈ ls, l ≠ 0) (h : actGo word ls = some r) (hw : red word = word) : (GQ.mk r : FG) = phi ls (GQ.mk word) ∧ red r = r := by
  induction ls generalizing word with
  | nil => simp [actGo] at h; subst h; exact ⟨rfl, hw⟩
  | cons l ls ih =>
    rw [actGo] at h
    split at h
    · have h2 := ih (fun x hx => hls x (by simp [hx])) h (red_red _)
      refine ⟨?_, h2.2⟩
      rw [h2.1, phi, SL_act (hls l (by simp))]
    · cases h
theorem artUp_row {ls : List Int} {n : Nat} {rows : List (List Int)} (h : artUp ls n = some rows) : rows.length = n ∧ ∀ j, j < n → ∃ r, rows[j]? = some r ∧ actGo [(j : Int) + 1] ls = some r := by
  induction n generalizing rows with
  | zero => simp [artUp] at h; subst h; simp
  | succ n ih =>
    rw [artUp] at h
    cases h1 : artUp ls n with
    | none => rw [h1] at h; simp at h
    | some x =>
      cases h2 : actGo [(n : Int) + 1] ls with
      | none => rw [h1, h2] at h; simp at h
      | some r =>
        rw [h1, h2] at h
        simp at h
        subst h
        obtain ⟨a, b⟩ := ih h1
        refine ⟨by simp [a], fun j hj => ?_⟩
        by_cases hjn : j < n
        · obtain ⟨q, c, d⟩ := b j hjn
          exact ⟨q, by rw [List.getElem?_append_left (by omega)]; exact c, d⟩
        · obtain rfl : j = n := by omega
          exact ⟨r, by rw [List.getElem?_append_right (by omega)]; simp [a], h2⟩
theorem In.ne {n : Int} {xs : List Int} (h : In n xs) : ∀ x ∈ xs, x ≠ 0 := fun x hx => (h x hx).1
theorem rdc_one (a : Int) : red [a] = [a] := rfl
theorem art_iff {n : Nat} {xs ys : List Int} {x y : List (List Int)} (hx : In n xs) (hy : In n ys) (h1 : artUp xs n = some x) (h2 : artUp ys n = some y) : x = y ↔ Gen (BrR n) xs ys := by
  obtain ⟨l1, r1⟩ := artUp_row h1
  obtain ⟨l2, r2⟩ := artUp_row h2
  constructor
  · intro e
    subst e
    have hf : Gen (BrR n) (xs ++ inv ys) [] := by
      refine faith n _ (hx.append hy.inv) fun j j0 j1 => ?_
      obtain ⟨k, rfl⟩ : ∃ k : Nat, j = (k : Int) + 1 := ⟨(j - 1).toNat, by omega⟩
      obtain ⟨p, p1, p2⟩ := r1 k (by omega)
      obtain ⟨q, q1, q2⟩ := r2 k (by omega)
      rw [p1] at q1
      injection q1 with q1
      subst q1
      have a := (actGo_phi hx.ne p2 (rdc_one _)).1
      have b := (actGo_phi hy.ne q2 (rdc_one _)).1
      rw [phi_append, show phi xs (gx ((k : Int) + 1)) = phi ys (gx ((k : Int) + 1)) from a.symm.trans b, phi_inv]
    exact eqG_iff.1 (by simp [eqG, hf])
  · intro hg
    have hp := phi_gen hg
    apply List.ext_getElem?
    intro j
    by_cases hj : j < n
    · obtain ⟨p, p1, p2⟩ := r1 j hj
      obtain ⟨q, q1, q2⟩ := r2 j hj
      obtain ⟨a, a'⟩ := actGo_phi hx.ne p2 (rdc_one _)
      obtain ⟨b, b'⟩ := actGo_phi hy.ne q2 (rdc_one _)
      rw [hp, ← b, fg_eq, a', b'] at a
      rw [p1, q1, a]
    · rw [List.getElem?_eq_none (by omega), List.getElem?_eq_none (by omega)]
theorem aeGo_sym (a b : Option (List (List Int))) : aeGo b a = aeGo a b := by
  cases a <;> cases b <;> simp [aeGo, eq_comm]
theorem aeA_sym (s : Int) (xs : List Int) (t : Int) (ys : List Int) : aeA t ys s xs = aeA s xs t ys := by
  unfold aeA
  by_cases h1 : okBr s xs = true ∧ okBr t ys = true
  · rw [if_pos h1, if_pos h1.symm]
    by_cases h2 : s = t
    · subst h2
      rw [if_pos rfl, if_pos rfl]
      by_cases h3 : xs.length ≤ 16 ∧ ys.length ≤ 16
      · rw [if_pos h3, if_pos h3.symm, aeGo_sym]
      · rw [if_neg h3, if_neg fun h => h3 h.symm]
    · rw [if_neg h2, if_neg fun h => h2 h.symm]
  · rw [if_neg h1, if_neg fun h => h1 h.symm]
theorem aeA_eq {s t : Int} {xs ys : List Int} (h : (aeA s xs t ys).2 = 0) : eqBr s xs t ys = (aeA s xs t ys).1 := by
  unfold aeA at h ⊢
  by_cases h1 : okBr s xs = true ∧ okBr t ys = true
  · rw [if_pos h1] at h ⊢
    by_cases h2 : s = t
    · subst h2
      rw [if_pos rfl] at h ⊢
      by_cases h3 : xs.length ≤ 16 ∧ ys.length ≤ 16
      · rw [if_pos h3] at h ⊢
        obtain ⟨k1, k2, -, -⟩ := okBr_parts h1.1
        obtain ⟨n, rfl⟩ : ∃ n : Nat, s = n := ⟨s.toNat, by omega⟩
        simp only [Int.toNat_natCast] at h ⊢
        cases e1 : artUp xs n with
        | none => rw [e1] at h; simp [aeGo] at h
        | some x =>
          cases e2 : artUp ys n with
          | none => rw [e1, e2] at h; simp [aeGo] at h
          | some y =>
            simp only [aeGo]
            have hi := art_iff (okBr_in h1.1) (okBr_in h1.2) e1 e2
            simp only [eqBr, h1.1, h1.2, Bool.true_and, beq_self_eq_true]
            rw [Bool.eq_iff_iff, eqG_iff, decide_eq_true_eq]
            exact hi.symm
      · rw [if_neg h3] at h; simp at h
    · rw [if_neg h2] at h; simp at h
  · rw [if_neg h1] at h; simp at h
theorem aeA_no (s : Int) (xs : List Int) (t : Int) (ys : List Int) : (aeA s xs t ys).2 = 0 ∨ (0 < (aeA s xs t ys).2 ∧ (aeA s xs t ys).2 ≤ 6) := by
  unfold aeA
  split
  · split
    · split
      · cases artUp xs s.toNat <;> cases artUp ys s.toNat <;> simp [aeGo]
      · simp
    · simp
  · simp
theorem hf_ok {s : Int} {xs : List Int} {b : Int} (h : (hfA s xs b).2.2 = 0) : okBr s xs = true ∧ Gen (BrR s) (hfA s xs b).1 xs ∧ In s (hfA s xs b).1 ∧ firstT (hfA s xs b).1 = none ∧ 0 ≤ (hfA s xs b).2.1 ∧ (hfA s xs b).2.1 ≤ b := by
  cases hok : okBr s xs
  · rw [hfA_no hok] at h; simp at h
  · rw [hfA_yes hok] at h ⊢
    unfold hForm at h ⊢
    by_cases hb : inR b 0 5000 = true
    · rw [if_pos hb] at h ⊢
      have hb := inR_iff.1 hb
      cases hl : hLoop b.toNat xs with
      | none => rw [hl] at h; simp [formOf] at h
      | some p =>
        simp only [formOf]
        obtain ⟨a, c, d, e⟩ := hLoop_gen (okBr_in hok) hl
        exact ⟨trivial, a, c, d, by omega, by omega⟩
    · rw [if_neg hb] at h; simp at h
theorem nil_iff {n : Int} {F xs : List Int} (hF : In n F) (hn : firstT F = none) (hg : Gen (BrR n) F xs) : F = [] ↔ Gen (BrR n) xs [] := by
  constructor
  · intro h; subst h; exact hg.symm
  · intro h
    rcases none_cases hF.ne hn with ⟨e, -⟩ | ⟨-, m, hm⟩ | ⟨-, m, hm⟩
    · exact e
    · exact (hm.ne (hg.trans h)).elim
    · exact (hm.ne (Gen.inv (hg.trans h))).elim
/-- What FnHandles asks of the form. -/
theorem hd_facts {s : Int} {xs : List Int} {b : Int} (h : (hfA s xs b).2.2 = 0) : 0 ≤ (hfA s xs b).2.1 ∧ (hfA s xs b).2.1 ≤ b ∧ trivB (hfA s xs b) = ((hfA s xs b).1.length == 0) ∧ trBr s xs = ((hfA s xs b).1.length == 0) ∧
    ((hfA s xs b).1.length ≤ 40 → okBr s (hfA s xs b).1 = true ∧ fhB s (hfA s xs b).1 = false ∧ eqBr s (hfA s xs b).1 s xs = true) := by
  obtain ⟨hok, hg, hin, hn, h0, h1⟩ := hf_ok h
  refine ⟨h0, h1, ?_, ?_, fun hl => ?_⟩
  · rw [trivB, h, Bool.eq_iff_iff]; simp
  · have hi := nil_iff hin hn hg
    rw [trBr, hok, Bool.true_and, Bool.eq_iff_iff, eqG_iff, ← hi]; simp
  · have h4 := okBr_parts hok
    have hk : okBr s (hfA s xs b).1 = true := by
      simp only [okBr, Bool.and_eq_true, decide_eq_true_eq]
      exact ⟨⟨inR_iff.2 ⟨h4.1, h4.2.1⟩, hl⟩, letters_iff.2 fun j hj => badLetter_no (hin _ (gi_mem hj)).1 (hin _ (gi_mem hj)).2.1 (hin _ (gi_mem hj)).2.2⟩
    refine ⟨hk, ?_, ?_⟩
    · rw [fhB, hk, Bool.true_and, hOk, hn]; rfl
    · simp only [eqBr, hk, hok, Bool.true_and, beq_self_eq_true]
      exact eqG_iff.2 hg
theorem q_ok {s t : Int} {xs ys : List Int} {b : Int} (h : (qA s xs t ys b).2 = 0) : okBr s xs = true ∧ okBr t ys = true ∧ s = t ∧ Gen (BrR s) (qA s xs t ys b).1 (inv xs ++ ys) ∧ In s (qA s xs t ys b).1 ∧ firstT (qA s xs t ys b).1 = none := by
  unfold qA at h ⊢
  by_cases h1 : okBr s xs = true ∧ okBr t ys = true
  · by_cases h2 : s = t
    · rw [qB_yes h1.1 h1.2 h2] at h ⊢
      simp only [if_true] at h ⊢
      subst h2
      have hin : In s (inv xs ++ ys) := (okBr_in h1.1).inv.append (okBr_in h1.2)
      unfold hForm at h ⊢
      by_cases hb : inR b 0 5000 = true
      · rw [if_pos hb] at h ⊢
        cases hl : hLoop b.toNat (inv xs ++ ys) with
        | none => rw [hl] at h; simp [formOf] at h
        | some p =>
          simp only [formOf]
          obtain ⟨a, c, d, e⟩ := hLoop_gen hin hl
          exact ⟨h1.1, h1.2, trivial, a, c, d⟩
      · rw [if_neg hb] at h; simp at h
    · rw [qB_ne h1.1 h1.2 h2] at h; simp at h
  · have e : qB s xs t ys = ([], 1) := by unfold qB; rw [if_neg h1]
    rw [e] at h; simp at h
theorem sgn_cases (F : List Int) : (0 < mainV F ∧ sgn F = 1) ∨ (mainV F < 0 ∧ sgn F = -1) ∨ (mainV F = 0 ∧ sgn F = 0) := by
  unfold sgn
  by_cases h : 0 < mainV F
  · rw [if_pos h]; exact .inl ⟨h, rfl⟩
  · rw [if_neg h]
    by_cases h2 : mainV F < 0
    · rw [if_pos h2]; exact .inr (.inl ⟨h2, rfl⟩)
    · rw [if_neg h2]; exact .inr (.inr ⟨by omega, rfl⟩)
theorem sgn_same {n : Int} {F G : List Int} (hF : In n F) (hG : In n G) (h1 : firstT F = none) (h2 : firstT G = none) (h : Gen (BrR n) F G) : sgn F = sgn G := by
  rcases same_sign hF.ne hG.ne h1 h2 h with ⟨rfl, rfl⟩ | ⟨a, b⟩ | ⟨a, b⟩
  · rfl
  · rcases sgn_cases F with c | c | c <;> rcases sgn_cases G with d | d | d <;> omega
  · rcases sgn_cases F with c | c | c <;> rcases sgn_cases G with d | d | d <;> omega
theorem sgn_zero {n : Int} {F : List Int} (hF : In n F) (h1 : firstT F = none) : sgn F = 0 ↔ F = [] := by
  rcases none_cases hF.ne h1 with ⟨rfl, -⟩ | ⟨a, m, hm⟩ | ⟨a, m, hm⟩
  · simp [sgn_nil]
  · have hne : F ≠ [] := fun e => by subst e; have := hm.2.2; simp at this
    rcases sgn_cases F with c | c | c <;> simp [hne] <;> omega
  · have hne : F ≠ [] := fun e => by subst e; have := hm.2.2; simp [inv] at this
    rcases sgn_cases F with c | c | c <;> simp [hne] <;> omega
theorem sgn_opp {n : Int} {F G : List Int} (hF : In n F) (hG : In n G) (h1 : firstT F = none) (h2 : firstT G = none) (h : Gen (BrR n) G (inv F)) : sgn G = -sgn F := by
  rcases none_cases hF.ne h1 with ⟨rfl, z⟩ | ⟨a, m, hm⟩ | ⟨a, m, hm⟩ <;> rcases none_cases hG.ne h2 with ⟨rfl, z'⟩ | ⟨b, k, hk⟩ | ⟨b, k, hk⟩
  · rfl
  · exact (hk.ne h).elim
  · exact (hk.ne (n := n) (by have := Gen.inv h; simpa [inv] using this)).elim
  · exact (hm.ne (n := n) (by have := (Gen.inv h).symm; rw [inv_inv] at this; simpa [inv] using this)).elim
  · obtain ⟨l, hl⟩ := hm.mul hk
    exact (hl.ne ((h.left F).trans (Gen.inv_r F))).elim
  · rcases sgn_cases F with c | c | c <;> rcases sgn_cases G with d | d | d <;> omega
  · exact (hm.ne (n := n) h.symm).elim
  · rcases sgn_cases F with c | c | c <;> rcases sgn_cases G with d | d | d <;> omega
  · obtain ⟨l, hl⟩ := hm.mul hk
    have hg := Gen.inv h
    rw [inv_inv] at hg
    exact (hl.ne ((hg.left (inv F)).trans (Gen.inv_l F))).elim
/-- Comparing in the other order. -/
theorem cmp_opp {s t : Int} {xs ys : List Int} {b c : Int} (h : (qA s xs t ys b).2 = 0) (h2 : (qA t ys s xs c).2 = 0) : sgn (qA t ys s xs c).1 = -sgn (qA s xs t ys b).1 := by
  obtain ⟨a1, a2, rfl, a4, a5, a6⟩ := q_ok h
  obtain ⟨b1, b2, -, b4, b5, b6⟩ := q_ok h2
  refine sgn_opp a5 b5 a6 b6 (b4.trans ?_)
  have := (Gen.inv a4).symm
  rwa [inv_append, inv_inv] at this
theorem cmp_eq {s t : Int} {xs ys : List Int} {b : Int} (h : (qA s xs t ys b).2 = 0) : eqBr s xs t ys = decide (sgn (qA s xs t ys b).1 = 0) := by
  obtain ⟨a1, a2, rfl, a4, a5, a6⟩ := q_ok h
  simp only [eqBr, a1, a2, Bool.true_and, beq_self_eq_true]
  rw [Bool.eq_iff_iff, eqG_iff, decide_eq_true_eq, sgn_zero a5 a6, nil_iff a5 a6 a4]
  constructor
  · intro h; exact (h.symm.left (inv xs)).trans (Gen.inv_l xs)
  · intro h
    have h1 := h.left xs
    rw [← List.append_assoc] at h1
    have h2 := ((Gen.inv_r (B := BrR s) xs).right ys).symm.trans h1
    simpa using h2.symm
/-- The same braid ahead of both. -/
theorem cmp_left {s t : Int} {xs ys : List Int} {b c : Int} (h : (qA s xs t ys b).2 = 0) {m : Int} (h2 : (qA m (ys ++ xs) m (ys ++ ys) c).2 = 0) (hm : m = t) : sgn (qA m (ys ++ xs) m (ys ++ ys) c).1 = sgn (qA s xs t ys b).1 := by
  subst hm
  obtain ⟨a1, a2, rfl, a4, a5, a6⟩ := q_ok h
  obtain ⟨b1, b2, -, b4, b5, b6⟩ := q_ok h2
  refine sgn_same b5 a5 b6 a6 (b4.trans (Gen.trans ?_ a4.symm))
  rw [inv_append, List.append_assoc, ← List.append_assoc (inv ys)]
  exact ((Gen.inv_l (B := BrR s) ys).right ys).left (inv xs)
theorem min_letter (l : List Int) (hl : ∀ x ∈ l, 0 < x) (hne : l ≠ []) : ∃ m, PosM m l := by
  induction l with
  | nil => exact (hne rfl).elim
  | cons x l ih =>
    have hx := hl x (by simp)
    by_cases h0 : l = []
    · subst h0
      exact ⟨x, hx, fun y hy => by simp at hy; subst hy; unfold ab; omega, by simp⟩
    · obtain ⟨m, m0, m1, m2⟩ := ih (fun y hy => hl y (by simp [hy])) h0
      by_cases hc : m ≤ x
      · refine ⟨m, m0, fun y hy => ?_, by simp [m2]⟩
        rcases List.mem_cons.1 hy with rfl | hy
        · unfold ab; omega
        · exact m1 y hy
      · refine ⟨x, hx, fun y hy => ?_, by simp⟩
        rcases List.mem_cons.1 hy with rfl | hy
        · unfold ab; omega
        · have := m1 y hy
          have := hl y (by simp [hy])
          omega
/-- A braid of positive letters is not less than the trivial one. -/
theorem pos_sign {s : Int} {ps : List Int} {b : Int} (h : (hfA s ps b).2.2 = 0) (hp : ∀ x ∈ ps, 0 < x) : sgn (hfA s ps b).1 = 1 ∨ (sgn (hfA s ps b).1 = 0 ∧ ps = []) := by
  obtain ⟨hok, hg, hin, hn, -, -⟩ := hf_ok h
  by_cases h0 : ps = []
  · right
    refine ⟨?_, h0⟩
    rw [sgn_zero hin hn, nil_iff hin hn hg, h0]
    exact .refl _
  · left
    obtain ⟨m, hm⟩ := min_letter ps hp h0
    rcases none_cases hin.ne hn with ⟨e, -⟩ | ⟨a, k, hk⟩ | ⟨a, k, hk⟩
    · rw [e] at hg; exact (hm.ne hg.symm).elim
    · rcases sgn_cases (hfA s ps b).1 with c | c | c <;> omega
    · obtain ⟨l, hl⟩ := hm.mul hk
      exact (hl.ne ((hg.symm.right _).trans (Gen.inv_r _))).elim
end Go.Proofs.Ytcinnbkhnonijaa
