/-
  Plain law: a word that holds its main letter with one sign only is no trivial braid (Larue's argument on the last letter of an image). No program in sight.
-/
import Derived.Test.YtcinnbkhnonijaaFaith
namespace Go.Proofs.Ytcinnbkhnonijaa
set_option maxRecDepth 10000

/-- The reduced word ends in the inverse of generator m. -/
def Ends (m : Int) (z : FG) : Prop := ∃ r, Rdc (r ++ [-m]) ∧ z = GQ.mk (r ++ [-m])
theorem push_snoc (t : List Int) (a b : Int) : push (t ++ [a]) b = if a = -b then t else t ++ [a] ++ [b] := by
  unfold push
  simp only [List.getLast?_append, List.getLast?_singleton, Option.some_or, Option.some.injEq, List.dropLast_concat]
theorem push_nil (b : Int) : push [] b = [b] := rfl
theorem push_keep {t : List Int} {a b : Int} (h : t.getLast? = some a) (hab : a ≠ -b) : push t b = t ++ [b] := by
  unfold push; rw [h, if_neg (by simpa using hab)]
/-! ### A letter above m -/
theorem rdc_far {A D : List Int} {e m : Int} (hA : Rdc (A ++ [e])) (he : e = m ∨ e = -m) (hD : Rdc D) (hn : ∀ y ∈ D, y ≠ m ∧ y ≠ -m) : Rdc (A ++ [e] ++ D) := by
  refine rdc_append.2 ⟨hA, hD, fun x y hx hy => ?_⟩
  have := hn y (List.mem_of_mem_head? hy)
  simp at hx
  omega
theorem red_far {A D : List Int} {e m : Int} (hA : Rdc (A ++ [e])) (he : e = m ∨ e = -m) (hn : ∀ y ∈ D, y ≠ m ∧ y ≠ -m) : pushAll (A ++ [e]) D = A ++ [e] ++ red D := by
  rw [← pushAll_red hA D]
  exact pushAll_of_rdc (rdc_far hA he (rdc_red D) fun y hy => hn y (red_mem hy))
theorem far_step {m : Int} (hm : 0 < m) (f : Int → List Int) (f1 : f m = [m]) (f2 : f (-m) = [-m]) (f3 : ∀ y, y ≠ m → y ≠ -m → ∀ z ∈ f y, z ≠ m ∧ z ≠ -m) (hinj : ∀ B, red (B.flatMap f) = [] → red B = [])
    (w : List Int) (hw : Rdc w) :
    ((∀ y ∈ w, y ≠ m ∧ y ≠ -m) ∧ ∀ y ∈ w.flatMap f, y ≠ m ∧ y ≠ -m) ∨
      ∃ p e B q, w = p ++ [e] ++ B ∧ (e = m ∨ e = -m) ∧ (∀ y ∈ B, y ≠ m ∧ y ≠ -m) ∧ (∀ y ∈ B.flatMap f, y ≠ m ∧ y ≠ -m) ∧ Rdc (q ++ [e]) ∧ red (w.flatMap f) = q ++ [e] ++ red (B.flatMap f) := by
  rcases nil_or_snoc w with rfl | ⟨l, a, rfl⟩
  · left; simp
  · have hlt : l.length < (l ++ [a]).length := by simp
    have ih := far_step hm f f1 f2 f3 hinj l (rdc_append.1 hw).1
    have ef : (l ++ [a]).flatMap f = l.flatMap f ++ f a := by simp
    by_cases ha : a = m ∨ a = -m
    · have fa : f a = [a] := by rcases ha with rfl | rfl <;> assumption
      right
      rcases ih with ⟨i1, i2⟩ | ⟨p, e, B, q, i1, i2, i3, i4, i5, i6⟩
      · refine ⟨l, a, [], red (l.flatMap f), by simp, ha, by simp, by simp, ?_, ?_⟩
        · refine rdc_append.2 ⟨rdc_red _, trivial, fun x y hx hy => ?_⟩
          have := i2 x (red_mem (List.mem_of_getLast? hx))
          simp at hy
          omega
        · rw [ef, fa, red_append]
          show push (red (l.flatMap f)) a = red (l.flatMap f) ++ [a] ++ red []
          rw [show red ([] : List Int) = [] from rfl, List.append_nil]
          unfold push
          rw [if_neg ?_]
          intro hx
          have := i2 _ (red_mem (List.mem_of_getLast? hx))
          omega
      · have hne : ∀ x, (q ++ [e] ++ red (B.flatMap f)).getLast? = some x → x ≠ -a := by
          intro x hx
          cases hC : red (B.flatMap f) with
          | nil =>
            have hB : B = [] := by
              have h1 := hinj B hC
              rw [i1] at hw
              have h2 : Rdc B := (rdc_append.1 (rdc_append.1 hw).1).2.1
              rwa [red_of_rdc h2] at h1
            rw [hC] at hx
            simp at hx
            subst hx
            rw [i1, hB, List.append_nil] at hw
            have := (rdc_append.1 hw).2.2 e a (by simp) rfl
            omega
          | cons c C =>
            have hmem : x ∈ red (B.flatMap f) := by
              rw [List.getLast?_append, hC] at hx
              rw [hC]
              cases hl : (c :: C).getLast? with
              | none => simp at hl
              | some y => rw [hl] at hx; simp at hx; subst hx; exact List.mem_of_getLast? hl
            have := i4 x (red_mem hmem)
            omega
        have hr : red (l.flatMap f ++ f a) = q ++ [e] ++ red (B.flatMap f) ++ [a] := by
          rw [fa, red_append, i6]
          show push _ a = _
          unfold push
          rw [if_neg ?_]
          intro hx
          exact hne _ hx rfl
        refine ⟨l, a, [], q ++ [e] ++ red (B.flatMap f), by simp, ha, by simp, by simp, ?_, ?_⟩
        · rw [← hr]; exact rdc_red _
        · rw [ef, hr]; simp [red, pushAll]
    · have ha' : a ≠ m ∧ a ≠ -m := by omega
      rcases ih with ⟨i1, i2⟩ | ⟨p, e, B, q, i1, i2, i3, i4, i5, i6⟩
      · left
        refine ⟨fun y hy => ?_, fun y hy => ?_⟩
        · rcases List.mem_append.1 hy with hy | hy
          · exact i1 y hy
          · simp at hy; subst hy; exact ha'
        · rw [ef] at hy
          rcases List.mem_append.1 hy with hy | hy
          · exact i2 y hy
          · exact f3 a ha'.1 ha'.2 y hy
      · right
        have i4' : ∀ y ∈ (B ++ [a]).flatMap f, y ≠ m ∧ y ≠ -m := fun y hy => by
          rw [List.flatMap_append] at hy
          rcases List.mem_append.1 hy with hy | hy
          · exact i4 y hy
          · exact f3 a ha'.1 ha'.2 y (by simpa using hy)
        refine ⟨p, e, B ++ [a], q, by rw [i1]; simp, i2, fun y hy => ?_, i4', i5, ?_⟩
        · rcases List.mem_append.1 hy with hy | hy
          · exact i3 y hy
          · simp at hy; subst hy; exact ha'
        · rw [← red_far i5 i2 i4', ef, red_append, i6, ← red_far i5 i2 i4, ← pushAll_append]
          simp
termination_by w.length
theorem ends_far {m l : Int} (hm : 0 < m) (hl : m < ab l) {z : FG} (h : Ends m z) : Ends m (SL l z) := by
  have h0 : l ≠ 0 := by unfold ab at hl; omega
  obtain ⟨r, hr, rfl⟩ := h
  have f1 : imgL l m = [m] := by rw [imgL, if_neg (by unfold ab at *; omega), if_neg (by unfold ab at *; omega)]
  have f2 : imgL l (-m) = [-m] := by rw [imgL_neg h0, f1]; rfl
  have f3 : ∀ y, y ≠ m → y ≠ -m → ∀ z ∈ imgL l y, z ≠ m ∧ z ≠ -m := by
    intro y h1 h2 z hz
    unfold imgL at hz
    split at hz
    · split at hz
      · unfold im1 at hz; split at hz <;> simp at hz <;> unfold ab at * <;> omega
      · unfold im1 at hz; split at hz <;> simp [inv] at hz <;> unfold ab at * <;> omega
    · split at hz
      · split at hz
        · unfold im2 at hz; split at hz <;> simp at hz <;> unfold ab at * <;> omega
        · unfold im2 at hz; split at hz <;> simp [inv] at hz <;> unfold ab at * <;> omega
      · simp at hz; omega
  have hmk : ∀ B, SL l (GQ.mk B) = GQ.mk (B.flatMap (imgL l)) := fun B => by rw [SL_act h0]; exact mk_red _
  have hinj : ∀ B, red (B.flatMap (imgL l)) = [] → red B = [] := by
    intro B hB
    have h1 : SL l (GQ.mk B) = 1 := by rw [hmk]; exact fg_eq.2 hB
    have h2 := congrArg (SL (-l)) h1
    rw [SL_can, (SL_hom _).one] at h2
    exact fg_eq.1 h2
  rcases far_step hm (imgL l) f1 f2 f3 hinj (r ++ [-m]) hr with ⟨i1, -⟩ | ⟨p, e, B, q, i1, i2, i3, i4, i5, i6⟩
  · exact absurd rfl (i1 (-m) (by simp)).2
  · have hB : B = [] := by
      rcases nil_or_snoc B with h | ⟨B', b, rfl⟩
      · exact h
      · have h1 : (p ++ [e] ++ (B' ++ [b])).getLast? = some b := by rw [← List.append_assoc, List.getLast?_concat]
        rw [← i1] at h1
        simp at h1
        have := i3 b (by simp)
        omega
    subst hB
    have he : e = -m := by
      have h1 := congrArg List.getLast? i1
      simp at h1
      omega
    subst he
    refine ⟨q, i5, ?_⟩
    rw [hmk, ← mk_red, i6]
    simp [red, pushAll]
/-! ### The letter m itself -/
def gT (m a : Int) : List Int := if a = m then [m + 1] else if a = -m then [-(m + 1)] else if a = m + 1 then [m] else if a = -(m + 1) then [-m] else [-m, a, m]
theorem gT_neg {m : Int} (hm : 0 < m) (a : Int) : gT m (-a) = inv (gT m a) := by
  unfold gT
  by_cases h1 : a = m
  · subst h1; rw [if_neg (by omega), if_pos rfl, if_pos rfl]; rfl
  · by_cases h2 : a = -m
    · subst h2; rw [if_pos (by omega), if_neg (by omega), if_pos rfl]; simp [inv]
    · by_cases h3 : a = m + 1
      · subst h3; rw [if_neg (by omega), if_neg (by omega), if_neg (by omega), if_pos rfl, if_neg (by omega), if_neg (by omega), if_pos rfl]; rfl
      · by_cases h4 : a = -(m + 1)
        · subst h4; rw [if_neg (by omega), if_neg (by omega), if_pos (by omega), if_neg (by omega), if_neg (by omega), if_neg (by omega), if_pos rfl]; simp [inv]
        · rw [if_neg (by omega), if_neg (by omega), if_neg (by omega), if_neg (by omega), if_neg (by omega), if_neg (by omega), if_neg (by omega), if_neg (by omega)]; simp [inv]
theorem SL_gT {m : Int} (hm : 0 < m) (w : List Int) : SL m (GQ.mk w) = gx m * GQ.mk (w.flatMap (gT m)) * (gx m).inv := by
  have hT : IsHom (lift (B := fun _ _ => False) (fun g => (GQ.mk (gT m g) : FG)) (fun x => by rw [gT_neg hm]; rfl) (fun _ _ h => h.elim)) := lift_hom _ _ _
  have h2 : IsHom (fun x => gx m * lift (B := fun _ _ => False) (fun g => (GQ.mk (gT m g) : FG)) (fun x => by rw [gT_neg hm]; rfl) (fun _ _ h => h.elim) x * (gx m).inv) := fun a b => by
    show gx m * _ * (gx m).inv = (gx m * _ * (gx m).inv) * (gx m * _ * (gx m).inv)
    rw [hT]; simp [GQ.mul_assoc]
  have h3 := hom_ext (SL_hom m) h2 (fun j hj => ?_) (GQ.mk w)
  · rw [h3, lift_mk, ev_flat]
  · rw [lift_one]
    by_cases h1 : j = m
    · subst h1; rw [show (GQ.mk [j] : FG) = gx j from rfl, SP_1 hm, gT, if_pos rfl]; rfl
    · by_cases h4 : j = m + 1
      · subst h4; rw [show (GQ.mk [m + 1] : FG) = gx (m + 1) from rfl, SP_2 hm, gT, if_neg (by omega), if_neg (by omega), if_pos rfl]; show gx m = gx m * gx m * (gx m).inv; rw [GQ.mul_assoc, GQ.mul_inv, GQ.mul_one]
      · rw [show (GQ.mk [j] : FG) = gx j from rfl, SP_3 hm hj h1 h4, gT, if_neg (by omega), if_neg (by omega), if_neg (by omega), if_neg (by omega)]
        show gx j = gx m * ((gx m).inv * (gx j * gx m)) * (gx m).inv
        simp [GQ.mul_assoc]
def oth (m z : Int) : Prop := z ≠ m ∧ z ≠ -m ∧ z ≠ m + 1 ∧ z ≠ -(m + 1)
/-- What the last letters of the image are, by the last letter of the word. -/
def Aut (m : Int) (w t : List Int) : Prop :=
  (w = [] ∧ t = []) ∨ (w.getLast? = some m ∧ t.getLast? = some (m + 1)) ∨ (w.getLast? = some (-m) ∧ t.getLast? = some (-(m + 1))) ∨
  (∃ z t', oth m z ∧ w.getLast? = some z ∧ t = t' ++ [z] ++ [m]) ∨
  (w.getLast? = some (m + 1) ∧ ∃ t', t = t' ++ [m] ∧ ∀ x, t'.getLast? = some x → ¬ oth m x) ∨
  (w.getLast? = some (-(m + 1)) ∧ ∃ x, t.getLast? = some x ∧ (x = -m ∨ oth m x))
theorem aut_step {m : Int} (hm : 0 < m) (w : List Int) (hw : Rdc w) : Aut m w (red (w.flatMap (gT m))) := by
  rcases nil_or_snoc w with rfl | ⟨l, a, rfl⟩
  · exact .inl ⟨rfl, rfl⟩
  · have hlt : l.length < (l ++ [a]).length := by simp
    have ih := aut_step hm l (rdc_append.1 hw).1
    have hlast : (l ++ [a]).getLast? = some a := by simp
    have hpre : ∀ x, l.getLast? = some x → a ≠ -x := fun x hx => (rdc_append.1 hw).2.2 x a hx rfl
    rw [show (l ++ [a]).flatMap (gT m) = l.flatMap (gT m) ++ gT m a by simp, red_append]
    generalize red (l.flatMap (gT m)) = t at ih ⊢
    by_cases a1 : a = m
    · subst a1
      rw [gT, if_pos rfl]
      refine .inr (.inl ⟨hlast, ?_⟩)
      show (push t (a + 1)).getLast? = _
      rcases ih with ⟨rfl, rfl⟩ | ⟨-, h⟩ | ⟨h, -⟩ | ⟨z, t', hz, -, rfl⟩ | ⟨-, t', rfl, -⟩ | ⟨-, x, h, hx⟩
      · rfl
      · rw [push_keep h (by omega)]; simp
      · exact (hpre _ h (by omega)).elim
      · rw [push_snoc, if_neg (by omega)]; simp
      · rw [push_snoc, if_neg (by omega)]; simp
      · rw [push_keep h (by unfold oth at hx; omega)]; simp
    · by_cases a2 : a = -m
      · subst a2
        rw [gT, if_neg a1, if_pos rfl]
        refine .inr (.inr (.inl ⟨hlast, ?_⟩))
        show (push t (-(m + 1))).getLast? = _
        rcases ih with ⟨rfl, rfl⟩ | ⟨h, -⟩ | ⟨-, h⟩ | ⟨z, t', hz, -, rfl⟩ | ⟨-, t', rfl, -⟩ | ⟨-, x, h, hx⟩
        · rfl
        · exact absurd rfl (hpre _ h)
        · rw [push_keep h (by omega)]; simp
        · rw [push_snoc, if_neg (by omega)]; simp
        · rw [push_snoc, if_neg (by omega)]; simp
        · rw [push_keep h (by unfold oth at hx; omega)]; simp
      · by_cases a3 : a = m + 1
        · subst a3
          rw [gT, if_neg a1, if_neg a2, if_pos rfl]
          refine .inr (.inr (.inr (.inr (.inl ⟨hlast, ?_⟩))))
          show ∃ t', push t m = t' ++ [m] ∧ _
          rcases ih with ⟨rfl, rfl⟩ | ⟨-, h⟩ | ⟨-, h⟩ | ⟨z, t', hz, -, rfl⟩ | ⟨-, t', rfl, -⟩ | ⟨h, -⟩
          · exact ⟨[], rfl, by simp⟩
          · exact ⟨t, push_keep h (by omega), fun x hx => by rw [h] at hx; simp at hx; unfold oth; omega⟩
          · exact ⟨t, push_keep h (by omega), fun x hx => by rw [h] at hx; simp at hx; unfold oth; omega⟩
          · exact ⟨_, by rw [push_snoc, if_neg (by omega)], fun x hx => by simp at hx; unfold oth; omega⟩
          · exact ⟨_, by rw [push_snoc, if_neg (by omega)], fun x hx => by simp at hx; unfold oth; omega⟩
          · exact (hpre _ h (by omega)).elim
        · by_cases a4 : a = -(m + 1)
          · subst a4
            rw [gT, if_neg a1, if_neg a2, if_neg a3, if_pos rfl]
            refine .inr (.inr (.inr (.inr (.inr ⟨hlast, ?_⟩))))
            show ∃ x, (push t (-m)).getLast? = some x ∧ _
            rcases ih with ⟨rfl, rfl⟩ | ⟨-, h⟩ | ⟨-, h⟩ | ⟨z, t', hz, -, rfl⟩ | ⟨h, -⟩ | ⟨-, x, h, hx⟩
            · exact ⟨-m, rfl, .inl rfl⟩
            · exact ⟨-m, by rw [push_keep h (by omega)]; simp, .inl rfl⟩
            · exact ⟨-m, by rw [push_keep h (by omega)]; simp, .inl rfl⟩
            · exact ⟨z, by rw [push_snoc, if_pos (by omega)]; simp, .inr hz⟩
            · exact absurd rfl (hpre _ h)
            · exact ⟨-m, by rw [push_keep h (by unfold oth at hx; omega)]; simp, .inl rfl⟩
          · have ho : oth m a := ⟨a1, a2, a3, a4⟩
            rw [gT, if_neg a1, if_neg a2, if_neg a3, if_neg a4]
            refine .inr (.inr (.inr (.inl ⟨a, ?_⟩)))
            have fin : ∀ s, (∀ x, s.getLast? = some x → x ≠ -a) → push (push s a) m = s ++ [a] ++ [m] := by
              intro s hs
              have e1 : push s a = s ++ [a] := by
                unfold push; rw [if_neg ?_]
                intro hx
                exact hs _ hx rfl
              rw [e1, push_snoc, if_neg a2]
            have app : (∀ x, t.getLast? = some x → x ≠ m) → push (push (push t (-m)) a) m = t ++ [-m] ++ [a] ++ [m] := by
              intro h
              have e1 : push t (-m) = t ++ [-m] := by
                unfold push; rw [if_neg ?_]
                intro hx
                exact h _ hx (by omega)
              rw [e1]
              exact fin _ fun x hx => by simp at hx; omega
            show ∃ t', oth m a ∧ (l ++ [a]).getLast? = some a ∧ push (push (push t (-m)) a) m = t' ++ [a] ++ [m]
            rcases ih with ⟨rfl, rfl⟩ | ⟨-, h⟩ | ⟨-, h⟩ | ⟨z, t', hz, hl, rfl⟩ | ⟨-, t', rfl, ht⟩ | ⟨-, x, h, hx⟩
            · exact ⟨_, ho, hlast, app fun x hx => by simp at hx⟩
            · exact ⟨_, ho, hlast, app fun x hx => by rw [h] at hx; simp at hx; omega⟩
            · exact ⟨_, ho, hlast, app fun x hx => by rw [h] at hx; simp at hx; omega⟩
            · refine ⟨t' ++ [z], ho, hlast, ?_⟩
              rw [push_snoc, if_pos (by omega)]
              exact fin _ fun x hx => by have := hpre _ hl; simp at hx; omega
            · refine ⟨t', ho, hlast, ?_⟩
              rw [push_snoc, if_pos (by omega)]
              exact fin _ fun x hx => by have := ht x hx; unfold oth at this ho; omega
            · exact ⟨_, ho, hlast, app fun y hy => by rw [h] at hy; simp at hy; subst hy; unfold oth at hx; omega⟩
termination_by w.length
theorem red_cons_rdc {k : Int} {r : List Int} (hr : Rdc r) : red (k :: r) = if r.head? = some (-k) then r.tail else k :: r := by
  by_cases h : r.head? = some (-k)
  · rw [if_pos h]
    cases r with
    | nil => cases h
    | cons x r =>
      simp at h
      subst h
      have : Gen (fun _ _ => False) (k :: -k :: r) r := (Gen.can (B := fun _ _ => False) k).right r
      rw [red_gen this, red_of_rdc hr.tail]; rfl
  · rw [if_neg h]
    refine red_of_rdc ?_
    cases r with
    | nil => trivial
    | cons x r => exact ⟨fun e => h (by rw [e]; rfl), hr⟩
theorem ends_at {m : Int} (hm : 0 < m) {z : FG} (h : Ends m z) : Ends m (SL m z) := by
  obtain ⟨r, hr, rfl⟩ := h
  have ha := aut_step hm r (rdc_append.1 hr).1
  have hpre : ∀ x, r.getLast? = some x → x ≠ m := fun x hx e => by
    have := (rdc_append.1 hr).2.2 x (-m) hx rfl
    omega
  generalize ht : red (r.flatMap (gT m)) = t at ha
  have htr : Rdc t := by rw [← ht]; exact rdc_red _
  have hlast : ∀ x, t.getLast? = some x → x ≠ m + 1 := by
    intro x hx
    rcases ha with ⟨-, rfl⟩ | ⟨h, -⟩ | ⟨-, h⟩ | ⟨z, t', hz, -, rfl⟩ | ⟨-, t', rfl, -⟩ | ⟨-, y, h, hy⟩
    · cases hx
    · exact absurd rfl (hpre _ h)
    · rw [h] at hx; simp at hx; omega
    · simp at hx; omega
    · simp at hx; omega
    · rw [h] at hx; simp at hx; unfold oth at hy; omega
  have h1 : red ((r ++ [-m]).flatMap (gT m)) = t ++ [-(m + 1)] := by
    rw [List.flatMap_append, red_append, ht]
    have : gT m (-m) = [-(m + 1)] := by rw [gT, if_neg (by omega), if_pos rfl]
    simp only [List.flatMap_cons, List.flatMap_nil, List.append_nil, this]
    show push t (-(m + 1)) = _
    unfold push
    rw [if_neg ?_]
    intro hx
    exact hlast _ hx (by omega)
  have hr2 : Rdc (t ++ [-(m + 1)]) := by rw [← h1]; exact rdc_red _
  have h2 : SL m (GQ.mk (r ++ [-m])) = GQ.mk (m :: (t ++ [-(m + 1)]) ++ [-m]) := by
    rw [SL_gT hm, ← mk_red ((r ++ [-m]).flatMap (gT m)), h1]; rfl
  rw [h2, ← mk_red, red_append]
  have h3 := red_cons_rdc (k := m) hr2
  have h4 : ∃ s, red (m :: (t ++ [-(m + 1)])) = s ++ [-(m + 1)] := by
    rw [h3]
    split
    · rename_i hh
      cases t with
      | nil => simp at hh; omega
      | cons x t => exact ⟨t, rfl⟩
    · exact ⟨m :: t, rfl⟩
  obtain ⟨s, hs⟩ := h4
  have h5 : pushAll (red (m :: (t ++ [-(m + 1)]))) [-m] = s ++ [-(m + 1)] ++ [-m] := by
    rw [hs]
    show push (s ++ [-(m + 1)]) (-m) = _
    rw [push_snoc, if_neg (by omega)]
  have h6 := rdc_pushAll (rdc_red (m :: (t ++ [-(m + 1)]))) [-m]
  rw [h5] at h6
  rw [h5]
  exact ⟨_, h6, rfl⟩
/-- A word in letters of size m at least, without the inverse of m, and with m: its image of generator m ends in the inverse of m. -/
theorem ends_pos {m : Int} (hm : 0 < m) (w : List Int) (z : FG) (hz : Ends m z) (hw : ∀ x ∈ w, m ≤ ab x ∧ x ≠ -m) : Ends m (phi w z) := by
  induction w generalizing z with
  | nil => exact hz
  | cons l w ih =>
    have hl := hw l (by simp)
    refine ih (SL l z) ?_ fun x hx => hw x (by simp [hx])
    by_cases h : m < ab l
    · exact ends_far hm h hz
    · obtain rfl : l = m := by unfold ab at *; omega
      exact ends_at hm hz
theorem ends_main {m : Int} (hm : 0 < m) (w : List Int) (hw : ∀ x ∈ w, m ≤ ab x ∧ x ≠ -m) (h : m ∈ w) : Ends m (phi w (gx m)) := by
  induction w with
  | nil => cases h
  | cons l w ih =>
    have hl := hw l (by simp)
    have hw' : ∀ x ∈ w, m ≤ ab x ∧ x ≠ -m := fun x hx => hw x (by simp [hx])
    show Ends m (phi w (SL l (gx m)))
    by_cases h1 : m < ab l
    · have e : SL l (gx m) = gx m := by
        by_cases h0 : 0 < l
        · exact SP_3 h0 (by omega) (by unfold ab at h1; omega) (by unfold ab at h1; omega)
        · have := SN_3 (i := -l) (j := m) (by unfold ab at h1; omega) (by omega) (by unfold ab at h1; omega) (by unfold ab at h1; omega)
          rwa [Int.neg_neg] at this
      rw [e]
      refine ih hw' ?_
      rcases List.mem_cons.1 h with h | h
      · subst h; unfold ab at h1; omega
      · exact h
    · obtain rfl : l = m := by unfold ab at *; omega
      refine ends_pos hm w _ ?_ hw'
      rw [SP_1 hm]
      exact ⟨[l, l + 1], ⟨by omega, by omega, trivial⟩, rfl⟩
/-- Such a word is no trivial braid. -/
theorem main_ne {n m : Int} (hm : 0 < m) (w : List Int) (hw : ∀ x ∈ w, m ≤ ab x ∧ x ≠ -m) (h : m ∈ w) : ¬ Gen (BrR n) w [] := by
  intro hg
  have h1 := ends_main hm w hw h
  rw [phi_gen hg] at h1
  obtain ⟨r, hr, e⟩ := h1
  have := fg_eq.1 (show (GQ.mk [m] : FG) = GQ.mk (r ++ [-m]) from e)
  rw [red_of_rdc hr, red_of_rdc (show Rdc [m] from trivial)] at this
  have h2 := congrArg List.getLast? this
  simp at h2
  omega
end Go.Proofs.Ytcinnbkhnonijaa
