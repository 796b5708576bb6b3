/-
  The plain law of FnActions.
-/
import Derived.Test.YtcoocjdkppdlmaaAcb
import Derived.Test.YtcoocjdkppdlmaaIsa
namespace Go.Proofs.Ytcoocjdkppdlmaa
set_option maxRecDepth 10000

theorem actGo_val {ls word r : List Int} (hls : ∀ l ∈ ls, l ≠ 0) (h : actGo word ls = some r) (hw : red word = word) : (GQ.mk r : FG) = phi ls (GQ.mk word) ∧ red r = r := by
  induction ls generalizing word with
  | nil => simp [actGo] at h; subst h; exact ⟨rfl, hw⟩
  | cons l ls ih =>
    rw [actGo] at h
    split at h
    · have h2 := ih (fun x hx => hls x (by simp [hx])) h (red_red _)
      refine ⟨?_, h2.2⟩
      rw [h2.1, phi, SL_act (hls l (by simp))]
    · cases h
theorem artUp_at {ls : List Int} {n : Nat} {rows : List (List Int)} (h : artUp ls n = some rows) : rows.length = n ∧ ∀ j, j < n → actGo [(j : Int) + 1] ls = some (gl rows j) := by
  induction n generalizing rows with
  | zero => simp [artUp] at h; subst h; simp
  | succ n ih =>
    rw [artUp] at h
    cases h1 : artUp ls n with
    | none => rw [h1] at h; simp at h
    | some x =>
      cases h2 : actGo [(n : Int) + 1] ls with
      | none => rw [h1, h2] at h; simp at h
      | some r =>
        rw [h1, h2] at h
        simp at h
        subst h
        obtain ⟨a, b⟩ := ih h1
        refine ⟨by simp [a], fun j hj => ?_⟩
        by_cases hjn : j < n
        · have e : gl (x ++ [r]) j = gl x j := by simp [gl, List.getD, List.getElem?_append_left (show j < x.length by omega)]
          rw [e]; exact b j hjn
        · obtain rfl : j = n := by omega
          have e : gl (x ++ [r]) j = r := by simp [gl, List.getD, a]
          rw [e]; exact h2
theorem gap_l {a b : List Int} {k : Nat} (h : k < a.length) : gi (a ++ b) k = gi a k := by simp [gi, List.getD, List.getElem?_append_left h]
theorem gap_r {a b : List Int} {k : Nat} (h : a.length ≤ k) : gi (a ++ b) k = gi b (k - a.length) := by simp [gi, List.getD, List.getElem?_append_right h]
theorem gap_i {a : List Int} {k : Nat} (h : k < a.length) : gi (inv a) k = -gi a (a.length - 1 - k) := by
  rw [gi_eq (by rw [inv_len]; exact h), gi_eq (by omega)]
  simp [inv]
/-- Where a letter moves a generator. -/
def swp (l i : Int) : Int := if i = ab l then ab l + 1 else if i = ab l + 1 then ab l else i
def plc (xs : List Int) (i : Int) : Int := xs.foldl (fun i l => swp l i) i
theorem swp_swp (l i : Int) : swp l (swp l i) = i := by
  unfold swp
  repeat (first | omega | split)
theorem plc_inj (xs : List Int) {i j : Int} (h : plc xs i = plc xs j) : i = j := by
  induction xs generalizing i j with
  | nil => exact h
  | cons l xs ih =>
    have := ih (i := swp l i) (j := swp l j) h
    rw [← swp_swp l i, this, swp_swp]
theorem swp_bd {n : Nat} {l i : Int} (hl : l ≠ 0 ∧ 1 - (n : Int) ≤ l ∧ l ≤ n - 1) (h0 : 0 < i) (h1 : i ≤ n) : 0 < swp l i ∧ swp l i ≤ n := by
  unfold swp ab
  repeat (first | omega | split)
theorem plc_bd {n : Nat} {xs : List Int} (hx : ∀ x ∈ xs, x ≠ 0 ∧ 1 - (n : Int) ≤ x ∧ x ≤ n - 1) {i : Int} (h0 : 0 < i) (h1 : i ≤ n) : 0 < plc xs i ∧ plc xs i ≤ n := by
  induction xs generalizing i with
  | nil => exact ⟨h0, h1⟩
  | cons l xs ih =>
    obtain ⟨a, b⟩ := swp_bd (hx l (by simp)) h0 h1
    exact ih (fun x hx' => hx x (by simp [hx'])) a b
def Cj (j : Int) (x : FG) : Prop := ∃ u : FG, x = u * gx j * u.inv
theorem SL_Cj {l : Int} (h : l ≠ 0) {j : Int} (hj : 0 < j) {x : FG} (hx : Cj j x) : Cj (swp l j) (SL l x) := by
  obtain ⟨u, rfl⟩ := hx
  have hb : Cj (swp l j) (SL l (gx j)) := by
    by_cases h0 : 0 < l
    · have e : ab l = l := by unfold ab; omega
      by_cases h1 : j = l
      · subst h1
        exact ⟨gx j, by rw [SP_1 h0, swp, if_pos e.symm, e]⟩
      · by_cases h2 : j = l + 1
        · subst h2
          exact ⟨1, by rw [SP_2 h0, swp, if_neg (by omega), if_pos (by omega), e]; simp⟩
        · exact ⟨1, by rw [SP_3 h0 (by omega) h1 h2, swp, if_neg (by omega), if_neg (by omega)]; simp⟩
    · have e : ab l = -l := by unfold ab; omega
      have hl : l = -(-l) := by omega
      by_cases h1 : j = -l
      · subst h1
        refine ⟨1, ?_⟩
        have := SN_1 (i := -l) (by omega)
        rw [Int.neg_neg] at this
        rw [this, swp, if_pos e.symm, e]; simp
      · by_cases h2 : j = -l + 1
        · subst h2
          refine ⟨(gx (-l + 1)).inv, ?_⟩
          have := SN_2 (i := -l) (by omega)
          rw [Int.neg_neg] at this
          rw [this, swp, if_neg (by omega), if_pos (by omega), e]; simp
        · refine ⟨1, ?_⟩
          have := SN_3 (i := -l) (j := j) (by omega) (by omega) h1 h2
          rw [Int.neg_neg] at this
          rw [this, swp, if_neg (by omega), if_neg (by omega)]; simp
  obtain ⟨v, hv⟩ := hb
  exact ⟨SL l u * v, by rw [SL_hom, SL_hom, (SL_hom l).inv, hv]; simp [GQ.mul_assoc]⟩
theorem swp_pos {l j : Int} (hl : l ≠ 0) (hj : 0 < j) : 0 < swp l j := by
  unfold swp ab
  repeat (first | omega | split)
theorem phi_Cj {xs : List Int} (hx : ∀ x ∈ xs, x ≠ 0) {j : Int} (hj : 0 < j) {x : FG} (h : Cj j x) : Cj (plc xs j) (phi xs x) := by
  induction xs generalizing j x with
  | nil => exact h
  | cons l xs ih => exact ih (fun y hy => hx y (by simp [hy])) (swp_pos (hx l (by simp)) hj) (SL_Cj (hx l (by simp)) hj h)
/-- A conjugate of a generator as a reduced word. -/
theorem conj_form {j : Int} (hj : 0 < j) (m : Nat) (a : List Int) (ha : a.length ≤ m) : ∃ v : List Int, Rdc (v ++ [j] ++ inv v) ∧ (GQ.mk (v ++ [j] ++ inv v) : FG) = GQ.mk a * gx j * (GQ.mk a : FG).inv := by
  induction m generalizing a with
  | zero =>
    obtain rfl : a = [] := List.eq_nil_of_length_eq_zero (by omega)
    exact ⟨[], trivial, by simp [inv, GQ.mk_nil]; rfl⟩
  | succ m ih =>
    have hr : (GQ.mk (red a) : FG) = GQ.mk a := mk_red a
    have hl := red_len a
    rcases nil_or_snoc (red a) with h0 | ⟨b, x, h0⟩
    · obtain ⟨v, h1, h2⟩ := ih [] (by simp)
      exact ⟨v, h1, by rw [h2, ← hr, h0]⟩
    · by_cases hx : x = j ∨ x = -j
      · have hbl : b.length ≤ m := by
          have : (b ++ [x]).length ≤ m + 1 := by rw [← h0]; omega
          simp at this; omega
        obtain ⟨v, h1, h2⟩ := ih b hbl
        refine ⟨v, h1, ?_⟩
        rw [h2, ← hr, h0, GQ.mk_append]
        rcases hx with rfl | rfl
        · rw [show (GQ.mk [x] : FG) = gx x from rfl]; simp [GQ.mul_assoc]
        · rw [show (GQ.mk [-j] : FG) = (gx j).inv from rfl]; simp [GQ.mul_assoc]
      · refine ⟨red a, ?_, ?_⟩
        · have hra := rdc_red a
          rw [h0] at hra ⊢
          refine rdc_append.2 ⟨rdc_append.2 ⟨hra, trivial, fun p q hp hq => ?_⟩, rdc_inv hra, fun p q hp hq => ?_⟩
          · simp at hp hq; subst hp hq; omega
          · rw [inv_snoc] at hq
            simp at hp hq; subst hp hq; omega
        · rw [GQ.mk_append, GQ.mk_append, GQ.mk_inv, hr]; rfl
theorem core_form (v : List Int) (j : Int) : coreB (v ++ [j] ++ inv v) = [j] := by
  have hl : (v ++ [j] ++ inv v).length = 2 * v.length + 1 := by simp [inv_len]; omega
  have e : coreN (v ++ [j] ++ inv v) = v.length := by
    refine coreN_eq (by omega) (fun i hi => ?_) ?_
    · unfold coreP
      rw [hl, show 2 * v.length + 1 - 1 - i = 2 * v.length - i by omega]
      have g1 : gi (v ++ [j] ++ inv v) i = gi v i := by rw [List.append_assoc, gap_l hi]
      have g2 : gi (v ++ [j] ++ inv v) (2 * v.length - i) = -gi v i := by
        rw [gap_r (by simp; omega)]
        simp only [List.length_append, List.length_cons, List.length_nil]
        rw [gap_i (by omega)]
        congr 2; omega
      rw [g1, g2]; simp; omega
    · unfold coreP; rw [hl]; simp
  unfold coreB
  rw [e, hl, List.append_assoc, List.drop_left, show 2 * v.length + 1 - 2 * v.length = 1 by omega]
  rfl
theorem core_Cj {r : List Int} (hr : red r = r) {j : Int} (hj : 0 < j) (h : Cj j (GQ.mk r)) : coreR r = [j] := by
  obtain ⟨u, hu⟩ := h
  obtain ⟨a, rfl⟩ : ∃ a, u = GQ.mk a := GQ.ind (p := fun u => ∃ a, u = GQ.mk a) (fun a => ⟨a, rfl⟩) u
  obtain ⟨v, h1, h2⟩ := conj_form hj a.length a (Nat.le_refl _)
  have e : red r = red (v ++ [j] ++ inv v) := fg_eq.1 (hu.trans h2.symm)
  rw [hr, red_of_rdc h1] at e
  rw [coreR, hr, e, core_form]
/-- All that is known of the rows of an action. -/
structure Rw_ (n : Nat) (xs : List Int) (rows : List (List Int)) : Prop where
  len : rows.length = n
  val : ∀ j, j < n → (GQ.mk (gl rows j) : FG) = phi xs (gx ((j : Int) + 1))
  rdc : ∀ j, j < n → red (gl rows j) = gl rows j
  short : ∀ j, j < n → (gl rows j).length ≤ 20000
  bd : ∀ j, j < n → ∀ x ∈ gl rows j, x ≠ 0 ∧ -(n : Int) ≤ x ∧ x ≤ n
theorem imgL_in {n : Nat} {l g : Int} (hl : l ≠ 0 ∧ 1 - (n : Int) ≤ l ∧ l ≤ n - 1) (hg : g ≠ 0 ∧ -(n : Int) ≤ g ∧ g ≤ n) : ∀ x ∈ imgL l g, x ≠ 0 ∧ -(n : Int) ≤ x ∧ x ≤ n := by
  have hab : 0 < ab l ∧ ab l ≤ n - 1 := by unfold ab; omega
  intro x hx
  unfold imgL im1 im2 at hx
  split at hx
  · split at hx
    · split at hx <;> simp at hx <;> omega
    · split at hx <;> simp [inv] at hx <;> omega
  · split at hx
    · split at hx
      · split at hx <;> simp at hx <;> omega
      · split at hx <;> simp [inv] at hx <;> omega
    · simp at hx; subst hx; exact hg
theorem actGo_in {n : Nat} {ls word r : List Int} (hls : ∀ l ∈ ls, l ≠ 0 ∧ 1 - (n : Int) ≤ l ∧ l ≤ n - 1) (h : actGo word ls = some r) (hw : ∀ x ∈ word, x ≠ 0 ∧ -(n : Int) ≤ x ∧ x ≤ n) (hs : word.length ≤ 20000) : (∀ x ∈ r, x ≠ 0 ∧ -(n : Int) ≤ x ∧ x ≤ n) ∧ r.length ≤ 20000 := by
  induction ls generalizing word with
  | nil => simp [actGo] at h; subst h; exact ⟨hw, hs⟩
  | cons l ls ih =>
    rw [actGo] at h
    split at h
    · rename_i h2
      refine ih (fun x hx => hls x (by simp [hx])) h (fun x hx => ?_) h2
      have hm : x ∈ word.flatMap (imgL l) := by simpa using pushAll_mem (out := []) hx
      obtain ⟨g, hg, hgx⟩ := List.mem_flatMap.1 hm
      exact imgL_in (hls l (by simp)) (hw g hg) x hgx
    · cases h
theorem rw_of {n : Nat} {xs : List Int} {rows : List (List Int)} (hx : ∀ x ∈ xs, x ≠ 0 ∧ 1 - (n : Int) ≤ x ∧ x ≤ n - 1) (h : artUp xs n = some rows) : Rw_ n xs rows := by
  obtain ⟨h1, h2⟩ := artUp_at h
  have hne : ∀ x ∈ xs, x ≠ 0 := fun x hx' => (hx x hx').1
  have hin := fun j (hj : j < n) => actGo_in hx (h2 j hj) (fun x hx' => by simp at hx'; subst hx'; omega) (by simp)
  exact ⟨h1, fun j hj => (actGo_val hne (h2 j hj) rfl).1, fun j hj => (actGo_val hne (h2 j hj) rfl).2, fun j hj => (hin j hj).2, fun j hj => (hin j hj).1⟩
theorem Rw_.ok {n : Nat} {xs : List Int} {rows : List (List Int)} (h : Rw_ n xs rows) (hn : n ≤ 12) : okImgs rows = true := by
  have hl := h.len
  rw [okImgs, hl, Bool.and_eq_true]
  refine ⟨inR_yes (by omega) (by omega), rowsOk_iff.2 fun j hj => ?_⟩
  rw [hl] at hj
  simp only [okFree, Bool.and_eq_true, decide_eq_true_eq]
  refine ⟨⟨inR_yes (by omega) (by omega), h.short j hj⟩, letters_iff.2 fun i hi => ?_⟩
  have := h.bd j hj _ (gi_mem hi)
  exact badLetter_no this.1 (by omega) (by omega)
theorem Rw_.core {n : Nat} {xs : List Int} {rows : List (List Int)} (h : Rw_ n xs rows) (hx : ∀ x ∈ xs, x ≠ 0 ∧ 1 - (n : Int) ≤ x ∧ x ≤ n - 1) {j : Nat} (hj : j < n) : coreR (gl rows j) = [plc xs ((j : Int) + 1)] := by
  have hp := (plc_bd (i := (j : Int) + 1) hx (by omega) (by omega)).1
  refine core_Cj (h.rdc j hj) hp ?_
  rw [h.val j hj]
  exact phi_Cj (fun x hx' => (hx x hx').1) (by omega) ⟨1, by simp⟩
/-- The places. -/
def plL (n : Nat) (xs : List Int) : List Int := (List.range n).map fun (j : Nat) => plc xs ((j : Int) + 1) - 1
theorem plL_len (n : Nat) (xs : List Int) : (plL n xs).length = n := by simp [plL]
theorem plGo_go {n : Nat} {xs : List Int} {rows : List (List Int)} (h : Rw_ n xs rows) (hx : ∀ x ∈ xs, x ≠ 0 ∧ 1 - (n : Int) ≤ x ∧ x ≤ n - 1) (d : Nat) : ∀ k, k + d = n → plGo ((plL n xs).take k) (rows.drop k) = some (plL n xs) := by
  induction d with
  | zero =>
    intro k hk
    have hl := h.len
    rw [List.drop_eq_nil_of_le (by omega), List.take_of_length_le (by rw [plL_len]; omega)]
    rfl
  | succ d ih =>
    intro k hk
    have hl := h.len
    have hc := h.core hx (show k < n by omega)
    have hp := (plc_bd (n := n) (i := (k : Int) + 1) hx (by omega) (by omega)).1
    have hg : gi (plL n xs) k = plc xs ((k : Int) + 1) - 1 := by rw [gi_eq (by rw [plL_len]; omega)]; simp [plL]
    have hb : plB ((plL n xs).take k) (coreR (gl rows k)) = true := by
      rw [hc, plB]
      simp only [List.length_cons, List.length_nil, decide_true, Bool.true_and, show gi [plc xs ((k : Int) + 1)] 0 = plc xs ((k : Int) + 1) from rfl]
      rw [Bool.and_eq_true, decide_eq_true_eq, Bool.not_eq_true']
      refine ⟨hp, hasI_no fun j hj => ?_⟩
      simp [plL_len] at hj
      have e : gi ((plL n xs).take k) j = plc xs ((j : Int) + 1) - 1 := by
        rw [gi_eq (by simp [plL_len]; omega)]; simp [plL]
      rw [e]
      intro he
      have := plc_inj xs (i := (j : Int) + 1) (j := (k : Int) + 1) (by omega)
      omega
    rw [plGo_on (by omega) hb, hc, show gi [plc xs ((k : Int) + 1)] 0 = plc xs ((k : Int) + 1) from rfl, ← hg, ← take_gi (by rw [plL_len]; omega)]
    exact ih (k + 1) (by omega)
theorem Rw_.places {n : Nat} {xs : List Int} {rows : List (List Int)} (h : Rw_ n xs rows) (hx : ∀ x ∈ xs, x ≠ 0 ∧ 1 - (n : Int) ≤ x ∧ x ≤ n - 1) : plGo [] rows = some (plL n xs) := by
  have := plGo_go h hx n 0 (by omega)
  simpa using this
/-- The letters 1, 2, .., k. -/
def upL (k : Nat) : List Int := (List.range k).map fun (i : Nat) => (i : Int) + 1
theorem upL_succ (k : Nat) : upL (k + 1) = upL k ++ [(k : Int) + 1] := by simp [upL, List.range_succ]
theorem upL_mk (k : Nat) : (GQ.mk (upL k) : FG) = yG k := by
  induction k with
  | zero => rfl
  | succ k ih => rw [upL_succ, GQ.mk_append, ih]; rfl
theorem upL_rdc (k : Nat) : Rdc (upL k) := by
  induction k with
  | zero => trivial
  | succ k ih =>
    rw [upL_succ]
    refine rdc_append.2 ⟨ih, trivial, fun x y hx hy => ?_⟩
    simp at hy; subst hy
    have hm := List.mem_of_getLast? hx
    simp [upL] at hm
    obtain ⟨i, hi, rfl⟩ := hm
    omega
theorem mk_pushAll {out z : List Int} (h : red out = out) : (GQ.mk (pushAll out z) : FG) = GQ.mk out * GQ.mk z ∧ red (pushAll out z) = pushAll out z := by
  have e : pushAll out z = red (out ++ z) := by rw [red_append, h]
  rw [e]
  exact ⟨by rw [mk_red, GQ.mk_append], red_red _⟩
theorem phi_yG {n : Nat} {xs : List Int} (hx : ∀ x ∈ xs, x ≠ 0 ∧ 1 - (n : Int) ≤ x ∧ x ≤ n - 1) : phi xs (yG n) = yG n := by
  induction xs with
  | nil => rfl
  | cons l xs ih =>
    have hl := hx l (by simp)
    rw [phi, SL_yG_high hl.1 n (by unfold ab; omega)]
    exact ih fun x hx' => hx x (by simp [hx'])
theorem prodGo_go {n : Nat} {xs : List Int} {rows : List (List Int)} (h : Rw_ n xs rows) (d : Nat) : ∀ k out, k + d = n → red out = out → (GQ.mk out : FG) = phi xs (yG k) → ∃ p, prodGo out (rows.drop k) = some p ∧ red p = p ∧ (GQ.mk p : FG) = phi xs (yG n) := by
  induction d with
  | zero =>
    intro k out hk ho he
    have hl := h.len
    rw [List.drop_eq_nil_of_le (by omega)]
    obtain rfl : k = n := by omega
    exact ⟨out, rfl, ho, he⟩
  | succ d ih =>
    intro k out hk ho he
    have hl := h.len
    rw [prodGo_on (by omega) (h.rdc k (by omega))]
    obtain ⟨a, b⟩ := mk_pushAll (z := gl rows k) ho
    exact ih (k + 1) _ (by omega) b (by rw [a, he, h.val k (by omega), ← phi_hom, yG_succ])
theorem Rw_.act {n : Nat} {xs : List Int} {rows : List (List Int)} (h : Rw_ n xs rows) (hx : ∀ x ∈ xs, x ≠ 0 ∧ 1 - (n : Int) ≤ x ∧ x ≤ n - 1) (hn : n ≤ 12) : isAct rows = true := by
  obtain ⟨p, h1, h2, h3⟩ := prodGo_go h n 0 [] (by omega) rfl (phi_hom xs).one.symm
  rw [List.drop_zero] at h1
  rw [phi_yG hx, ← upL_mk] at h3
  have e : p = upL n := by
    have := fg_eq.1 h3
    rwa [h2, red_of_rdc (upL_rdc n)] at this
  have hl := h.len
  rw [isAct, h.ok hn, h1, h.places hx, e]
  simp only [Option.isSome_some, Bool.true_and, Bool.and_eq_true, decide_eq_true_eq]
  refine ⟨by simp [upL, hl], rising_iff.2 fun i hi => ?_⟩
  simp only [upL, List.length_map, List.length_range] at hi
  rw [gi_eq (by simpa [upL] using hi)]
  simp [upL]
theorem Rw_.ap {n : Nat} {xs : List Int} {rows : List (List Int)} (h : Rw_ n xs rows) (hx : ∀ x ∈ xs, x ≠ 0 ∧ 1 - (n : Int) ≤ x ∧ x ≤ n - 1) (hn : n ≤ 12) : apB rows = true ∧ apL rows = plL n xs := by
  refine ⟨?_, ?_⟩
  · rw [apB, h.ok hn, h.places hx]; rfl
  · rw [apL, h.ok hn, h.places hx]; rfl
/-- A word applied to. -/
theorem appGo_val {n : Nat} {xs : List Int} {rows : List (List Int)} (h : Rw_ n xs rows) {ys : List Int} (hy : ∀ x ∈ ys, x ≠ 0 ∧ -(n : Int) ≤ x ∧ x ≤ n) {out x : List Int} (ho : red out = out) (hg : appGo rows out ys = some x) : (GQ.mk x : FG) = GQ.mk out * phi xs (GQ.mk ys) ∧ red x = x := by
  induction ys generalizing out with
  | nil =>
    simp [appGo] at hg
    subst hg
    exact ⟨by rw [show (GQ.mk [] : FG) = 1 from rfl, (phi_hom xs).one]; simp, ho⟩
  | cons g ys ih =>
    rw [appGo] at hg
    split at hg
    · obtain ⟨a, b⟩ := mk_pushAll (z := imgA rows g) ho
      obtain ⟨c, d⟩ := ih (fun x hx => hy x (by simp [hx])) b hg
      refine ⟨?_, d⟩
      have hgb := hy g (by simp)
      have e : (GQ.mk (imgA rows g) : FG) = phi xs (gx g) := by
        unfold imgA
        by_cases h0 : 0 < g
        · have e1 : ab g = g := by unfold ab; omega
          rw [if_pos h0, e1, h.val _ (by omega), show (((g - 1).toNat : Nat) : Int) + 1 = g by omega]
        · have e1 : ab g = -g := by unfold ab; omega
          rw [if_neg h0, e1, GQ.mk_inv, h.val _ (by omega), show (((-g - 1).toNat : Nat) : Int) + 1 = -g by omega, gx_neg, (phi_hom xs).inv]
          simp
      rw [c, a, e, GQ.mk_cons, phi_hom xs, GQ.mul_assoc]; rfl
    · cases hg
/-- The braid followed by its inverse acts trivially. -/
theorem apply_back {n : Nat} {xs : List Int} {rows rows' : List (List Int)} (h : Rw_ n xs rows) (h' : Rw_ n (inv xs) rows') {i : Nat} (hi : i < n) (hc : (appA rows' (gl rows i)).2 = 0) : (appA rows' (gl rows i)).1 = [(i : Int) + 1] := by
  unfold appA at hc ⊢
  split at hc
  · rename_i hk
    rw [if_pos hk]
    cases hg : appGo rows' [] (gl rows i) with
    | none => rw [hg] at hc; simp [appOf] at hc
    | some x =>
      obtain ⟨a, b⟩ := appGo_val h' (h.bd i hi) (out := []) rfl hg
      rw [h.val i hi, phi_inv, show (GQ.mk [] : FG) = 1 from rfl, GQ.one_mul] at a
      have e : red x = red [(i : Int) + 1] := fg_eq.1 a
      rw [b] at e
      simp only [appOf]
      exact e
  · simp at hc
end Go.Proofs.Ytcoocjdkppdlmaa
