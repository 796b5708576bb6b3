/-
  A row of the Artin action of at most 16 letters has fewer than 20000 letters.
-/
import Derived.Test.YtcoocjdkppdlmaaPhi
import Derived.Test.YtcoocjdkppdlmaaArt
namespace Go.Proofs.Ytcoocjdkppdlmaa
set_option maxRecDepth 10000

/-- The product of the first generators. -/
def yG : Nat → FG
  | 0 => 1
  | n + 1 => yG n * gx ((n : Int) + 1)
theorem yG_succ (n : Nat) : yG (n + 1) = yG n * gx ((n : Int) + 1) := rfl
theorem SL_yG_low {l : Int} (h : l ≠ 0) (n : Nat) (hn : (n : Int) < ab l) : SL l (yG n) = yG n := by
  have hab : 0 < ab l := by unfold ab; omega
  induction n with
  | zero => exact (SL_hom l).one
  | succ n ih =>
    rw [yG_succ, SL_hom l, ih (by omega)]
    congr 1
    by_cases h0 : 0 < l
    · have e : ab l = l := by unfold ab; omega
      exact SP_3 h0 (by omega) (by omega) (by omega)
    · have e : ab l = -l := by unfold ab; omega
      have := SN_3 (i := -l) (j := (n : Int) + 1) (by omega) (by omega) (by omega) (by omega)
      rwa [Int.neg_neg] at this
/-- At the letter's own place. -/
theorem SL_yG_pos {k : Nat} : SL ((k : Int) + 1) (yG (k + 1)) = yG (k + 2) * (yG (k + 1)).inv * yG k := by
  have h0 : (0 : Int) < (k : Int) + 1 := by omega
  rw [yG_succ k, SL_hom, SL_yG_low (by omega) k (by unfold ab; omega), SP_1 h0, show yG (k + 2) = yG k * gx ((k : Int) + 1) * gx ((k : Int) + 1 + 1) from rfl]
  simp [GQ.mul_assoc]
theorem SL_yG_neg {k : Nat} : SL (-((k : Int) + 1)) (yG (k + 1)) = yG k * (yG (k + 1)).inv * yG (k + 2) := by
  have h0 : (0 : Int) < (k : Int) + 1 := by omega
  rw [yG_succ k, SL_hom, SL_yG_low (by omega) k (by unfold ab; omega), SN_1 h0, show yG (k + 2) = yG k * gx ((k : Int) + 1) * gx ((k : Int) + 1 + 1) from rfl]
  simp [GQ.mul_assoc]
theorem SL_yG_next {l : Int} (h : l ≠ 0) (n : Nat) (hn : (n : Int) = ab l + 1) : SL l (yG n) = yG n := by
  by_cases h0 : 0 < l
  · have e : ab l = l := by unfold ab; omega
    obtain ⟨k, rfl⟩ : ∃ k : Nat, l = (k : Int) + 1 := ⟨(l - 1).toNat, by omega⟩
    obtain rfl : n = k + 2 := by omega
    rw [show yG (k + 2) = yG (k + 1) * gx ((k : Int) + 1 + 1) from rfl, SL_hom, SL_yG_pos, SP_2 (by omega), show yG (k + 2) = yG (k + 1) * gx ((k : Int) + 1 + 1) from rfl]
    rw [yG_succ k]
    simp [GQ.mul_assoc]
  · have e : ab l = -l := by unfold ab; omega
    obtain ⟨k, hk⟩ : ∃ k : Nat, l = -((k : Int) + 1) := ⟨(-l - 1).toNat, by omega⟩
    subst hk
    obtain rfl : n = k + 2 := by omega
    rw [show yG (k + 2) = yG (k + 1) * gx ((k : Int) + 1 + 1) from rfl, SL_hom, SL_yG_neg, SN_2 (by omega), show yG (k + 2) = yG (k + 1) * gx ((k : Int) + 1 + 1) from rfl]
    rw [yG_succ k]
    simp [GQ.mul_assoc]
theorem SL_yG_high {l : Int} (h : l ≠ 0) (n : Nat) (hn : ab l < n) : SL l (yG n) = yG n := by
  have hab : 0 < ab l := by unfold ab; omega
  induction n with
  | zero => omega
  | succ n ih =>
    by_cases hc : (n : Int) = ab l
    · exact SL_yG_next h _ (by omega)
    · rw [yG_succ, SL_hom l, ih (by omega)]
      congr 1
      by_cases h0 : 0 < l
      · have e : ab l = l := by unfold ab; omega
        exact SP_3 h0 (by omega) (by omega) (by omega)
      · have e : ab l = -l := by unfold ab; omega
        have := SN_3 (i := -l) (j := (n : Int) + 1) (by omega) (by omega) (by omega) (by omega)
        rwa [Int.neg_neg] at this
/-- A product of these, with signs in turn. -/
def altG : Bool → List Nat → FG
  | _, [] => 1
  | s, a :: l => (if s then yG a else (yG a).inv) * altG (!s) l
/-- What a letter does with the indices: k goes to its two neighbours and itself. -/
def spr (k : Nat) (d : Bool) : Bool → List Nat → List Nat
  | _, [] => []
  | s, a :: l => (if a = k then (if s = d then [k + 1, k, k - 1] else [k - 1, k, k + 1]) else [a]) ++ spr k d (!s) l
theorem altG_spr {l : Int} (h : l ≠ 0) (L : List Nat) (s : Bool) : SL l (altG s L) = altG s (spr (ab l).toNat (decide (0 < l)) s L) := by
  have hab : 0 < ab l := by unfold ab; omega
  obtain ⟨k, hk⟩ : ∃ k : Nat, ab l = (k : Int) + 1 := ⟨(ab l - 1).toNat, by omega⟩
  have hk1 : (ab l).toNat = k + 1 := by omega
  rw [hk1]
  induction L generalizing s with
  | nil => exact (SL_hom l).one
  | cons a L ih =>
    rw [altG, SL_hom l, ih, spr]
    by_cases ha : a = k + 1
    · subst ha
      rw [if_pos rfl]
      by_cases h0 : 0 < l
      · have e : l = (k : Int) + 1 := by unfold ab at hk; omega
        subst e
        rw [decide_eq_true h0]
        cases s
        · simp [altG, (SL_hom _).inv, SL_yG_pos, GQ.mul_assoc]
        · simp [altG, SL_yG_pos, GQ.mul_assoc]
      · have e : l = -((k : Int) + 1) := by unfold ab at hk; omega
        subst e
        rw [decide_eq_false h0]
        cases s
        · simp [altG, (SL_hom _).inv, SL_yG_neg, GQ.mul_assoc]
        · simp [altG, SL_yG_neg, GQ.mul_assoc]
    · rw [if_neg ha]
      have e : SL l (yG a) = yG a := by
        by_cases hc : (a : Int) < ab l
        · exact SL_yG_low h a hc
        · exact SL_yG_high h a (by omega)
      cases s
      · simp [altG, (SL_hom _).inv, e]
      · simp [altG, e]
theorem spr_count {k : Nat} (hk : 0 < k) (d s : Bool) (L : List Nat) (j : Nat) : (spr k d s L).count j = L.count j + (if j = k + 1 ∨ j + 1 = k then L.count k else 0) := by
  induction L generalizing s with
  | nil => simp [spr]
  | cons a L ih =>
    rw [spr, List.count_append, ih]
    by_cases ha : a = k
    · subst ha
      have e : (if s = d then [a + 1, a, a - 1] else [a - 1, a, a + 1]).count j = (if j = a then 1 else 0) + (if j = a + 1 ∨ j + 1 = a then 1 else 0) := by
        split <;>
        · simp only [List.count_cons, List.count_nil, beq_iff_eq]
          repeat (first | omega | split)
      rw [if_pos rfl, e]
      simp only [List.count_cons, beq_iff_eq, ↓reduceIte]
      repeat (first | omega | split)
    · rw [if_neg ha]
      simp only [List.count_cons, beq_iff_eq, List.count_nil]
      repeat (first | omega | split)
def dst (a b : Nat) : Nat := (a - b) + (b - a)
/-- The way through the indices. -/
def tvw : List Nat → Nat
  | [] => 0
  | [_] => 0
  | a :: b :: l => dst a b + tvw (b :: l)
theorem tvw_two (a b : Nat) (l : List Nat) : tvw (a :: b :: l) = dst a b + tvw (b :: l) := rfl
theorem tvw_spr {k : Nat} (hk : 0 < k) (d s : Bool) (a : Nat) (L : List Nat) : ∃ h t, spr k d s (a :: L) = h :: t ∧ dst h a ≤ (if a = k then 1 else 0) ∧ tvw (h :: t) + (if a = k then 1 else 0) ≤ tvw (a :: L) + 4 * (a :: L).count k := by
  induction L generalizing a s with
  | nil =>
    rw [spr]
    by_cases ha : a = k
    · subst ha
      simp only [if_pos]
      split
      · exact ⟨a + 1, [a, a - 1], rfl, by unfold dst; omega, by simp [tvw, dst]; omega⟩
      · exact ⟨a - 1, [a, a + 1], rfl, by unfold dst; omega, by simp [tvw, dst]; omega⟩
    · rw [if_neg ha]
      exact ⟨a, [], rfl, by simp [dst], by rw [if_neg ha]; simp [tvw]⟩
  | cons b L ih =>
    obtain ⟨h, t, e, h1, h2⟩ := ih (!s) b
    rw [spr, e]
    have hc : (a :: b :: L).count k = (if a = k then 1 else 0) + (b :: L).count k := by rw [List.count_cons]; simp only [beq_iff_eq]; omega
    rw [hc, tvw_two]
    by_cases ha : a = k
    · subst ha
      simp only [if_pos] at *
      split
      · refine ⟨a + 1, a :: (a - 1) :: h :: t, rfl, by unfold dst; omega, ?_⟩
        simp only [tvw_two]
        unfold dst at *
        split at h1 <;> split at h2 <;> omega
      · refine ⟨a - 1, a :: (a + 1) :: h :: t, rfl, by unfold dst; omega, ?_⟩
        simp only [tvw_two]
        unfold dst at *
        split at h1 <;> split at h2 <;> omega
    · rw [if_neg ha] at *
      refine ⟨a, h :: t, rfl, by unfold dst; omega, ?_⟩
      rw [tvw_two]
      unfold dst at *
      split at h1 <;> split at h2 <;> omega
theorem tvw_sprL {k : Nat} (hk : 0 < k) (d s : Bool) (L : List Nat) : tvw (spr k d s L) ≤ tvw L + 4 * L.count k := by
  cases L with
  | nil => simp [spr]
  | cons a L =>
    obtain ⟨h, t, e, -, h2⟩ := tvw_spr hk d s a L
    rw [e]; omega
/-- The letters from a to b. -/
def seg (a b : Nat) : List Int := if a ≤ b then (List.range (b - a)).map fun i => ((a + i : Nat) : Int) + 1 else inv ((List.range (a - b)).map fun i => ((b + i : Nat) : Int) + 1)
theorem seg_len (a b : Nat) : (seg a b).length = dst a b := by
  unfold seg dst; split
  · simp; omega
  · rw [inv_len]; simp; omega
theorem seg_up (a d : Nat) : (GQ.mk ((List.range d).map fun i => ((a + i : Nat) : Int) + 1) : FG) = (yG a).inv * yG (a + d) := by
  induction d with
  | zero => simp; rfl
  | succ d ih =>
    rw [List.range_succ, List.map_append, GQ.mk_append, ih, show a + (d + 1) = a + d + 1 by omega, yG_succ]
    simp only [List.map_cons, List.map_nil]
    rw [GQ.mul_assoc]; rfl
theorem seg_mk (a b : Nat) : (GQ.mk (seg a b) : FG) = (yG a).inv * yG b := by
  unfold seg
  by_cases h : a ≤ b
  · rw [if_pos h, seg_up, show a + (b - a) = b by omega]
  · rw [if_neg h, GQ.mk_inv, seg_up, show b + (a - b) = a by omega]
    simp
/-- A word for the product. -/
def wdA : List Nat → List Int
  | a :: b :: l => seg a b ++ wdA l
  | _ => []
theorem wdA_len : ∀ L : List Nat, (wdA L).length ≤ tvw L
  | [] => by simp [wdA]
  | [_] => by simp [wdA]
  | a :: b :: l => by
    have h := wdA_len l
    rw [wdA, List.length_append, seg_len, tvw_two]
    cases l with
    | nil => simp [wdA, tvw]
    | cons c l => rw [tvw_two]; omega
theorem wdA_mk : ∀ L : List Nat, L.length % 2 = 0 → (GQ.mk (wdA L) : FG) = altG false L
  | [], _ => rfl
  | [_], h => by simp at h
  | a :: b :: l, h => by
    have e := wdA_mk l (by simp only [List.length_cons] at h; omega)
    rw [wdA, GQ.mk_append, e, seg_mk]
    simp [altG, GQ.mul_assoc]
theorem spr_len (k : Nat) (d s : Bool) (L : List Nat) : (spr k d s L).length = L.length + 2 * L.count k := by
  induction L generalizing s with
  | nil => simp [spr]
  | cons a L ih =>
    rw [spr, List.length_append, ih, List.count_cons, List.length_cons]
    simp only [beq_iff_eq]
    split <;> (try split) <;> simp <;> omega
/-- How often an index, two of them side by side, may come; and how long the way is. -/
def fbF : Nat → Nat
  | 0 => 1
  | 1 => 2
  | n + 2 => fbF n + fbF (n + 1)
def fbT : Nat → Nat
  | 0 => 1
  | n + 1 => fbT n + 4 * fbF n
theorem fbF_up (n : Nat) : fbF n ≤ fbF (n + 1) := by
  cases n with
  | zero => simp [fbF]
  | succ n => rw [fbF]; omega
theorem fbT_up (n : Nat) : fbT n ≤ fbT (n + 1) := by rw [fbT]; omega
theorem fbT_mono {n m : Nat} (h : n ≤ m) : fbT n ≤ fbT m := by
  induction m with
  | zero => obtain rfl : n = 0 := by omega
            exact Nat.le_refl _
  | succ m ih =>
    by_cases e : n = m + 1
    · rw [e]; exact Nat.le_refl _
    · exact Nat.le_trans (ih (by omega)) (fbT_up m)
theorem fbT_16 : fbT 16 = 16717 := by decide
/-- The state behind t letters. -/
def Bd (t : Nat) (L : List Nat) : Prop := L.length % 2 = 0 ∧ (∀ j, L.count j ≤ fbF t) ∧ (∀ j, L.count j + L.count (j + 1) ≤ fbF (t + 1)) ∧ tvw L ≤ fbT t
theorem Bd.next {t : Nat} {L : List Nat} (h : Bd t L) {k : Nat} (hk : 0 < k) (d : Bool) : Bd (t + 1) (spr k d false L) := by
  obtain ⟨h0, h1, h2, h3⟩ := h
  have hup := fbF_up t
  refine ⟨by rw [spr_len]; omega, fun j => ?_, fun j => ?_, ?_⟩
  · rw [spr_count hk]
    by_cases c : j = k + 1 ∨ j + 1 = k
    · rw [if_pos c]
      rcases c with rfl | rfl
      · have := h2 k; omega
      · have := h2 j; omega
    · rw [if_neg c]
      have := h1 j; omega
  · rw [spr_count hk, spr_count hk, show fbF (t + 1 + 1) = fbF t + fbF (t + 1) from rfl]
    by_cases c1 : j = k
    · subst c1
      rw [if_neg (by omega), if_pos (by omega)]
      have := h1 j; have := h2 j; omega
    · by_cases c2 : j = k + 1
      · subst c2
        rw [if_pos (by omega), if_neg (by omega)]
        have := h1 k; have := h2 (k + 1); omega
      · by_cases c3 : j + 1 = k
        · subst c3
          rw [if_pos (by omega), if_neg (by omega)]
          have := h1 (j + 1); have := h2 j; omega
        · by_cases c4 : j + 2 = k
          · subst c4
            rw [if_neg (by omega), if_pos (by omega)]
            have := h2 j; have := h1 (j + 2); omega
          · rw [if_neg (by omega), if_neg (by omega)]
            have := h2 j; omega
  · have := tvw_sprL hk d false L
    have := h1 k
    rw [fbT]; omega
theorem bd_start (i : Nat) : Bd 0 [i, i + 1] := by
  refine ⟨by simp, fun j => ?_, fun j => ?_, by simp [tvw, dst, fbT]⟩
  · simp only [List.count_cons, List.count_nil, beq_iff_eq, fbF]
    repeat (first | omega | split)
  · simp only [List.count_cons, List.count_nil, beq_iff_eq, fbF]
    repeat (first | omega | split)
theorem alt_start (i : Nat) : (GQ.mk [(i : Int) + 1] : FG) = altG false [i, i + 1] := by
  simp only [altG, Bool.false_eq_true, if_false, Bool.not_false, if_true, GQ.mul_one, yG_succ]
  rw [← GQ.mul_assoc, GQ.inv_mul, GQ.one_mul]; rfl
/-- A row stays short. -/
theorem act_short {L : List Nat} {t : Nat} (hb : Bd t L) {word : List Int} (hw : (GQ.mk word : FG) = altG false L) {l : Int} (hl : l ≠ 0) : (actW l word).length ≤ fbT (t + 1) ∧ (GQ.mk (actW l word) : FG) = altG false (spr (ab l).toNat (decide (0 < l)) false L) ∧ Bd (t + 1) (spr (ab l).toNat (decide (0 < l)) false L) := by
  have hk : 0 < (ab l).toNat := by unfold ab; omega
  have hn := hb.next hk (decide (0 < l))
  have e : (GQ.mk (actW l word) : FG) = altG false (spr (ab l).toNat (decide (0 < l)) false L) := by rw [← SL_act hl, hw, altG_spr hl]
  refine ⟨?_, e, hn⟩
  have e2 : red (actW l word) = red (wdA (spr (ab l).toNat (decide (0 < l)) false L)) := fg_eq.1 (e.trans (wdA_mk _ hn.1).symm)
  have e3 : red (actW l word) = actW l word := red_red _
  rw [← e3, e2]
  exact Nat.le_trans (red_len _) (Nat.le_trans (wdA_len _) hn.2.2.2)
theorem actGo_short {ls : List Int} (hls : ∀ x ∈ ls, x ≠ 0) {L : List Nat} {t : Nat} (hb : Bd t L) {word : List Int} (hw : (GQ.mk word : FG) = altG false L) (ht : t + ls.length ≤ 16) : ∃ r, actGo word ls = some r := by
  induction ls generalizing L t word with
  | nil => exact ⟨word, rfl⟩
  | cons l ls ih =>
    obtain ⟨h1, h2, h3⟩ := act_short hb hw (hls l (by simp))
    simp only [List.length_cons] at ht
    have h4 := fbT_mono (show t + 1 ≤ 16 by omega)
    rw [fbT_16] at h4
    rw [actGo, if_pos (by omega)]
    exact ih (fun x hx => hls x (by simp [hx])) h3 h2 (by omega)
theorem artUp_short {ls : List Int} (hls : ∀ x ∈ ls, x ≠ 0) (hl : ls.length ≤ 16) (n : Nat) : ∃ rows, artUp ls n = some rows := by
  induction n with
  | zero => exact ⟨[], rfl⟩
  | succ n ih =>
    obtain ⟨rows, hr⟩ := ih
    obtain ⟨r, h⟩ := actGo_short hls (bd_start n) (alt_start n) (by omega)
    exact ⟨_, artUp_on hr h⟩
end Go.Proofs.Ytcoocjdkppdlmaa
