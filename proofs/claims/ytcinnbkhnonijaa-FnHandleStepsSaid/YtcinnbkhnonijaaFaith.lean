/-
  Plain law: a braid word that acts as the identity is trivial (by combing the last strand). No program in sight.
-/
import Derived.Test.YtcinnbkhnonijaaPhi
namespace Go.Proofs.Ytcinnbkhnonijaa
set_option maxRecDepth 10000

abbrev BG (n : Int) : Type := GQ (BrR n)
def bs {n : Int} (i : Int) : BG n := GQ.mk [i]
section
variable {n : Int}
theorem bs_neg (i : Int) : (bs (-i) : BG n) = (bs i).inv := rfl
theorem bs_comm {i j : Int} (h1 : 0 < i) (h2 : i + 2 ≤ j) (h3 : j < n) : (bs i * bs j : BG n) = bs j * bs i := GQ.eq.2 (.base (.comm i j h1 h2 h3))
theorem bs_braid {i : Int} (h1 : 0 < i) (h2 : i + 1 < n) : (bs i * bs (i + 1) * bs i : BG n) = bs (i + 1) * bs i * bs (i + 1) := GQ.eq.2 (.base (.braid i h1 h2))
theorem bs_braid_l {i : Int} (h1 : 0 < i) (h2 : i + 1 < n) (x : BG n) : bs i * (bs (i + 1) * (bs i * x)) = bs (i + 1) * (bs i * (bs (i + 1) * x)) := by
  have := congrArg (· * x) (bs_braid h1 h2)
  simpa [GQ.mul_assoc] using this
/-- The letters n - 1, .., n - d, one behind the other. -/
def cW (n : Int) : Nat → List Int
  | 0 => []
  | d + 1 => cW n d ++ [n - 1 - d]
def cG (d : Nat) : BG n := GQ.mk (cW n d)
theorem cG_succ (d : Nat) : (cG (d + 1) : BG n) = cG d * bs (n - 1 - d) := rfl
theorem cG_zero : (cG 0 : BG n) = 1 := rfl
theorem cG_low {d : Nat} {i : Int} (h1 : 0 < i) (h2 : i + d + 1 ≤ n - 1 + 0) (h3 : (d : Int) < n) : (bs i * cG d : BG n) = cG d * bs i := by
  induction d with
  | zero => rw [cG_zero, GQ.mul_one, GQ.one_mul]
  | succ d ih =>
    rw [cG_succ]
    exact GQ.comm_mul (ih (by omega) (by omega)) (bs_comm h1 (by omega) (by omega))
theorem cG_high {d : Nat} {i : Int} (h1 : n - d < i) (h2 : i < n) (h3 : (d : Int) < n) : (cG d * bs i : BG n) = bs (i - 1) * cG d := by
  induction d with
  | zero => omega
  | succ d ih =>
    rw [cG_succ]
    by_cases h : i = n - d
    · cases d with
      | zero => omega
      | succ d =>
        subst h
        rw [cG_succ]
        have e : n - 1 - ((d : Nat) : Int) = (n - 1 - (d + 1 : Nat)) + 1 := by omega
        have e2 : n - ((d + 1 : Nat) : Int) = (n - 1 - (d + 1 : Nat)) + 1 := by omega
        have e3 : n - ((d + 1 : Nat) : Int) - 1 = n - 1 - (d + 1 : Nat) := by omega
        rw [e3, e2, e]
        have hb := bs_braid (n := n) (i := n - 1 - (d + 1 : Nat)) (by omega) (by omega)
        have hl := cG_low (n := n) (d := d) (i := n - 1 - (d + 1 : Nat)) (by omega) (by omega) (by omega)
        simp only [GQ.mul_assoc] at hb ⊢
        rw [← hb, ← GQ.mul_assoc (bs _) (cG d), hl]
        simp only [GQ.mul_assoc]
    · have hc := bs_comm (n := n) (i := n - 1 - d) (j := i) (by omega) (by omega) h2
      rw [GQ.mul_assoc, hc, ← GQ.mul_assoc, ih (by omega) (by omega), GQ.mul_assoc]
/-- The pure braid in which strand n - 1 - d goes round the last one. -/
def aG (d : Nat) : BG n := cG d * (bs (n - 1 - d) * bs (n - 1 - d)) * (cG d).inv
theorem aG_far {d : Nat} {i : Int} (h1 : 0 < i) (h2 : i + d + 3 ≤ n) : (bs i * aG d : BG n) = aG d * bs i := by
  have a := cG_low (n := n) (d := d) h1 (by omega) (by omega)
  have b := bs_comm (n := n) (j := n - 1 - d) h1 (by omega) (by omega)
  unfold aG
  exact GQ.comm_mul (GQ.comm_mul a (GQ.comm_mul b b)) (GQ.comm_inv a)
theorem aG_near {d : Nat} {i : Int} (h1 : n - 1 - d < i) (h2 : i + 1 < n) (h3 : (d : Int) + 1 < n) : (bs i * aG d : BG n) = aG d * bs i := by
  have a := cG_high (n := n) (d := d) (i := i + 1) (by omega) (by omega) (by omega)
  rw [show i + 1 - 1 = i by omega] at a
  have b := bs_comm (n := n) (i := n - 1 - d) (j := i + 1) (by omega) (by omega) (by omega)
  have a2 : (cG d : BG n).inv * bs i = bs (i + 1) * (cG d).inv := by
    apply GQ.left_cancel (a := cG d)
    rw [← GQ.mul_assoc, GQ.mul_inv, GQ.one_mul, ← GQ.mul_assoc, a, GQ.mul_assoc, GQ.mul_inv, GQ.mul_one]
  unfold aG
  simp only [GQ.mul_assoc]
  rw [a2, ← GQ.mul_assoc (bs i), ← a]
  simp only [GQ.mul_assoc]
  rw [← GQ.mul_assoc (bs (n - 1 - d)) (bs (i + 1)), b, GQ.mul_assoc, ← GQ.mul_assoc (bs (n - 1 - d)) (bs (i + 1)), b]
  simp only [GQ.mul_assoc]
/-- What a letter does to the two that it moves. -/
theorem aG_up {d : Nat} (h : (d : Int) + 2 < n) : (bs (n - 2 - d) * aG (d + 1) * (bs (n - 2 - d)).inv : BG n) = aG d := by
  have e : n - 1 - ((d + 1 : Nat) : Int) = n - 2 - d := by omega
  have e2 : n - 1 - (d : Int) = (n - 2 - d) + 1 := by omega
  have hl := cG_low (n := n) (d := d) (i := n - 2 - d) (by omega) (by omega) (by omega)
  have hb := bs_braid_l (n := n) (i := n - 2 - d) (by omega) (by omega)
  have hli : (cG d : BG n).inv * (bs (n - 2 - d)).inv = (bs (n - 2 - d)).inv * (cG d).inv := by
    rw [← GQ.inv_prod, ← GQ.inv_prod, hl]
  unfold aG
  rw [cG_succ, e, e2]
  simp only [GQ.mul_assoc, GQ.inv_prod]
  rw [← GQ.mul_assoc (bs (n - 2 - d)) (cG d), hl, GQ.mul_assoc]
  rw [hli]
  congr 1
  have key : ∀ x : BG n, bs (n - 2 - d) * (bs (n - 2 - d + 1) * (bs (n - 2 - d) * (bs (n - 2 - d) * ((bs (n - 2 - d + 1)).inv * ((bs (n - 2 - d)).inv * x))))) = bs (n - 2 - d + 1) * (bs (n - 2 - d + 1) * x) := by
    intro x
    rw [hb]
    have : ∀ y : BG n, bs (n - 2 - d) * (bs (n - 2 - d + 1) * (bs (n - 2 - d) * ((bs (n - 2 - d + 1)).inv * ((bs (n - 2 - d)).inv * y)))) = bs (n - 2 - d + 1) * y := by
      intro y
      rw [hb]
      simp
    rw [this]
  exact key _
theorem aG_down {d : Nat} (h : (d : Int) + 2 < n) : (bs (n - 2 - d) * aG d * (bs (n - 2 - d)).inv : BG n) = (aG d).inv * aG (d + 1) * aG d := by
  have e : n - 1 - ((d + 1 : Nat) : Int) = n - 2 - d := by omega
  have e2 : n - 1 - (d : Int) = (n - 2 - d) + 1 := by omega
  have hl := cG_low (n := n) (d := d) (i := n - 2 - d) (by omega) (by omega) (by omega)
  have hb := bs_braid_l (n := n) (i := n - 2 - d) (by omega) (by omega)
  have hli : (cG d : BG n).inv * (bs (n - 2 - d)).inv = (bs (n - 2 - d)).inv * (cG d).inv := by
    rw [← GQ.inv_prod, ← GQ.inv_prod, hl]
  unfold aG
  rw [cG_succ, e, e2]
  simp only [GQ.mul_assoc, GQ.inv_prod, GQ.inv_inv, GQ.inv_mul_left]
  rw [← GQ.mul_assoc (bs (n - 2 - d)) (cG d), hl, GQ.mul_assoc, hli]
  congr 1
  generalize hA : (bs (n - 2 - d) : BG n) = a at *
  generalize hB : (bs (n - 2 - d + 1) : BG n) = b at *
  have k1 : ∀ x : BG n, a * (b * (a.inv * x)) = b.inv * (a * (b * x)) := by
    intro x
    apply GQ.left_cancel (a := b)
    have := hb (a.inv * x)
    simp only [GQ.mul_inv_left] at this
    rw [GQ.mul_inv_left, ← this]
  rw [show a * (b * (b * (a.inv * (cG d).inv))) = a * (b * (a.inv * (a * (b * (a.inv * (cG d).inv))))) by simp]
  rw [k1, k1]
  simp
end
/-- The pure braids of the letters of a free word: its letter x is strand |x| round the last. -/
def aL (n x : Int) : BG n := if 0 < x then aG (n - 1 - x).toNat else if x < 0 then (aG (n - 1 + x).toNat).inv else 1
theorem aL_neg (n x : Int) : aL n (-x) = (aL n x).inv := by
  unfold aL
  by_cases h : 0 < x
  · rw [if_neg (by omega), if_pos (by omega), if_pos h, show n - 1 + -x = n - 1 - x by omega]
  · by_cases h2 : x < 0
    · rw [if_pos (by omega), if_neg h, if_pos h2, GQ.inv_inv, show n - 1 - -x = n - 1 + x by omega]
    · rw [if_neg (by omega), if_neg (by omega), if_neg h, if_neg h2, GQ.inv_one]
def aV (n : Int) : FG → BG n := lift (aL n) (aL_neg n) fun _ _ h => h.elim
theorem aV_hom (n : Int) : IsHom (aV n) := lift_hom _ _ _
theorem aV_one (n j : Int) : aV n (gx j) = aL n j := lift_one _ _ _ _
/-- Words in letters of size below n. -/
def In (n : Int) (w : List Int) : Prop := ∀ x ∈ w, x ≠ 0 ∧ 1 - n ≤ x ∧ x ≤ n - 1
def InG (n : Int) (u : FG) : Prop := ∃ l, In n l ∧ u = GQ.mk l
theorem In.append {n : Int} {a b : List Int} (h : In n a) (k : In n b) : In n (a ++ b) := fun x hx => (List.mem_append.1 hx).elim (h x) (k x)
theorem InG.mul {n : Int} {a b : FG} (h : InG n a) (k : InG n b) : InG n (a * b) := by
  obtain ⟨l, h, rfl⟩ := h
  obtain ⟨m, k, rfl⟩ := k
  exact ⟨l ++ m, h.append k, rfl⟩
theorem InG.one (n : Int) : InG n 1 := ⟨[], fun x hx => absurd hx (by simp), rfl⟩
theorem In.inv {n : Int} {a : List Int} (h : In n a) : In n (inv a) := fun x hx => by
  simp only [Go.Proofs.Ytcinnbkhnonijaa.inv, List.mem_reverse, List.mem_map] at hx
  obtain ⟨y, hy, rfl⟩ := hx
  have := h y hy
  omega
theorem InG.inv {n : Int} {a : FG} (h : InG n a) : InG n a.inv := by
  obtain ⟨l, h, rfl⟩ := h
  exact ⟨_, h.inv, (GQ.mk_inv l).symm⟩
theorem InG.gx {n j : Int} (h0 : j ≠ 0) (h1 : 1 - n ≤ j) (h2 : j ≤ n - 1) : InG n (gx j) := ⟨[j], fun x hx => by simp at hx; omega, rfl⟩
/-- Conjugating by a letter below n - 1 keeps the words in the pure braids round the last strand. -/
theorem aV_conj1 {n i j : Int} (hi : 0 < i) (hin : i + 1 < n) (h0 : 0 < j) (h2 : j ≤ n - 1) : ∃ u, InG n u ∧ (bs i * aV n (gx j) * (bs i).inv : BG n) = aV n u := by
  have ej : aV n (gx j) = aG (n - 1 - j).toNat := by rw [aV_one, aL, if_pos h0]
  by_cases h3 : i = j
  · subst h3
    obtain ⟨d, hd⟩ : ∃ d : Nat, n - 1 - i = d + 1 := ⟨(n - 2 - i).toNat, by omega⟩
    refine ⟨gx (i + 1), InG.gx (by omega) (by omega) (by omega), ?_⟩
    rw [ej, aV_one, aL, if_pos (by omega), show (n - 1 - i).toNat = d + 1 by omega, show (n - 1 - (i + 1)).toNat = d by omega]
    have := aG_up (n := n) (d := d) (by omega)
    rwa [show n - 2 - (d : Int) = i by omega] at this
  · by_cases h4 : i + 1 = j
    · subst h4
      obtain ⟨d, hd⟩ : ∃ d : Nat, n - 2 - i = d := ⟨(n - 2 - i).toNat, by omega⟩
      refine ⟨(gx (i + 1)).inv * gx i * gx (i + 1), ((InG.gx (by omega) (by omega) (by omega)).inv.mul (InG.gx (by omega) (by omega) (by omega))).mul (InG.gx (by omega) (by omega) (by omega)), ?_⟩
      rw [aV_hom, aV_hom, (aV_hom n).inv, ej]
      rw [show aV n (gx i) = aG (d + 1) by rw [aV_one, aL, if_pos hi, show (n - 1 - i).toNat = d + 1 by omega]]
      rw [show (n - 1 - (i + 1)).toNat = d by omega]
      have := aG_down (n := n) (d := d) (by omega)
      rwa [show n - 2 - (d : Int) = i by omega] at this
    · refine ⟨gx j, InG.gx (by omega) (by omega) h2, ?_⟩
      rw [ej]
      have hc : (bs i * aG (n - 1 - j).toNat : BG n) = aG (n - 1 - j).toNat * bs i := by
        by_cases h5 : i < j
        · exact aG_far hi (by omega)
        · exact aG_near (by omega) hin (by omega)
      rw [hc, GQ.mul_assoc, GQ.mul_inv, GQ.mul_one]
theorem conj_hom {n : Int} (c : BG n) (a b : BG n) : c * (a * b) * c.inv = c * a * c.inv * (c * b * c.inv) := by simp [GQ.mul_assoc]
theorem conj_inv {n : Int} (c : BG n) (a : BG n) : c * a.inv * c.inv = (c * a * c.inv).inv := by simp [GQ.mul_assoc]
theorem aV_conj {n : Int} (c : BG n) (h : ∀ j, 0 < j → j ≤ n - 1 → ∃ u, InG n u ∧ c * aV n (gx j) * c.inv = aV n u) (u : FG) (hu : InG n u) : ∃ u', InG n u' ∧ c * aV n u * c.inv = aV n u' := by
  obtain ⟨l, hl, rfl⟩ := hu
  induction l with
  | nil => exact ⟨1, InG.one n, by rw [GQ.mk_nil, (aV_hom n).one]; simp⟩
  | cons x l ih =>
    obtain ⟨u2, k2, e2⟩ := ih fun y hy => hl y (by simp [hy])
    have hx := hl x (by simp)
    have h1 : ∃ u1, InG n u1 ∧ c * aV n (gx x) * c.inv = aV n u1 := by
      by_cases h0 : 0 < x
      · exact h x h0 hx.2.2
      · obtain ⟨u1, k1, e1⟩ := h (-x) (by omega) (by omega)
        refine ⟨u1.inv, k1.inv, ?_⟩
        rw [(aV_hom n).inv, ← e1, ← conj_inv, ← (aV_hom n).inv, ← gx_neg, Int.neg_neg]
    obtain ⟨u1, k1, e1⟩ := h1
    refine ⟨u1 * u2, k1.mul k2, ?_⟩
    rw [aV_hom, ← e1, ← e2, ← conj_hom, ← aV_hom]; rfl
/-- The same for the inverse of a letter. -/
theorem aV_conj2 {n i j : Int} (hi : 0 < i) (hin : i + 1 < n) (h0 : 0 < j) (h2 : j ≤ n - 1) : ∃ u, InG n u ∧ ((bs i).inv * aV n (gx j) * (bs i).inv.inv : BG n) = aV n u := by
  have ej : aV n (gx j) = aG (n - 1 - j).toNat := by rw [aV_one, aL, if_pos h0]
  by_cases h3 : i = j ∨ i + 1 = j
  · obtain ⟨d, hd⟩ : ∃ d : Nat, n - 2 - i = d := ⟨(n - 2 - i).toNat, by omega⟩
    have up := aG_up (n := n) (d := d) (by omega)
    have down := aG_down (n := n) (d := d) (by omega)
    rw [show n - 2 - (d : Int) = i by omega] at up down
    have up2 : (bs i).inv * aG d * (bs i).inv.inv = (aG (d + 1) : BG n) := by rw [← up]; simp [GQ.mul_assoc]
    have ei : aV n (gx i) = aG (d + 1) := by rw [aV_one, aL, if_pos hi, show (n - 1 - i).toNat = d + 1 by omega]
    have ei1 : aV n (gx (i + 1)) = aG d := by rw [aV_one, aL, if_pos (by omega), show (n - 1 - (i + 1)).toNat = d by omega]
    have g1 : InG n (gx i) := InG.gx (by omega) (by omega) (by omega)
    have g2 : InG n (gx (i + 1)) := InG.gx (by omega) (by omega) (by omega)
    rcases h3 with h3 | h3
    · subst h3
      refine ⟨gx i * gx (i + 1) * (gx i).inv, (g1.mul g2).mul g1.inv, ?_⟩
      rw [aV_hom, aV_hom, (aV_hom n).inv, ei, ei1]
      have hP : (aG (d + 1) : BG n) = aG d * (bs i * aG d * (bs i).inv) * (aG d).inv := by rw [down]; simp [GQ.mul_assoc]
      have h5 : (bs i).inv * aG (d + 1) * (bs i).inv.inv = ((bs i).inv * aG d * (bs i).inv.inv) * aG d * ((bs i).inv * aG d * (bs i).inv.inv : BG n).inv := by
        rw [hP]; simp [GQ.mul_assoc]
      rw [h5, up2]
    · subst h3
      refine ⟨gx i, g1, ?_⟩
      rw [ei1, ei, up2]
  · refine ⟨gx j, InG.gx (by omega) (by omega) h2, ?_⟩
    rw [ej]
    have hc : (bs i * aG (n - 1 - j).toNat : BG n) = aG (n - 1 - j).toNat * bs i := by
      by_cases h5 : i < j
      · exact aG_far hi (by omega)
      · exact aG_near (by omega) hin (by omega)
    rw [GQ.inv_inv, GQ.mul_assoc, ← hc, GQ.inv_mul_left]
theorem in_nil (n : Int) : In n [] := fun x hx => absurd hx (by simp)
theorem in_one {n x : Int} (h0 : x ≠ 0) (h1 : 1 - n ≤ x) (h2 : x ≤ n - 1) : In n [x] := fun y hy => by simp at hy; subst hy; exact ⟨h0, h1, h2⟩
theorem comb_step {n : Int} {d : Nat} (hd : (d : Int) < n) {x : Int} (hx : x ≠ 0 ∧ 1 - n ≤ x ∧ x ≤ n - 1) :
    ∃ (v : FG) (c : List Int) (d' : Nat), InG n v ∧ In (n - 1) c ∧ (d' : Int) < n ∧ (cG d * GQ.mk [x] : BG n) = aV n v * GQ.mk c * cG d' := by
  have one : ∀ c : List Int, ∀ d' : Nat, (cG d * GQ.mk [x] : BG n) = GQ.mk c * cG d' → (cG d * GQ.mk [x] : BG n) = aV n 1 * GQ.mk c * cG d' := fun c d' h => by rw [(aV_hom n).one, GQ.one_mul]; exact h
  by_cases h0 : 0 < x
  · by_cases h1 : x + d + 1 < n
    · exact ⟨1, [x], d, InG.one n, in_one hx.1 (by omega) (by omega), hd, one _ _ (cG_low h0 (by omega) hd).symm⟩
    · by_cases h2 : x = n - 1 - d
      · exact ⟨1, [], d + 1, InG.one n, in_nil _, by omega, one _ _ (by rw [cG_succ, h2]; exact (GQ.one_mul _).symm)⟩
      · by_cases h3 : x = n - d
        · obtain ⟨m, rfl⟩ : ∃ m, d = m + 1 := ⟨d - 1, by omega⟩
          refine ⟨gx x, [], m, InG.gx hx.1 hx.2.1 hx.2.2, in_nil _, by omega, ?_⟩
          have e : n - 1 - (m : Int) = x := by omega
          rw [aV_one, aL, if_pos h0, show (n - 1 - x).toNat = m by omega, cG_succ, e, aG, e, GQ.mk_nil]
          show cG m * bs x * bs x = _
          simp [GQ.mul_assoc]
        · exact ⟨1, [x - 1], d, InG.one n, in_one (by omega) (by omega) (by omega), hd, one _ _ (cG_high (by omega) (by omega) hd)⟩
  · obtain ⟨y, rfl⟩ : ∃ y, x = -y := ⟨-x, by omega⟩
    have hy : 0 < y := by omega
    have es : (GQ.mk [-y] : BG n) = (bs y).inv := rfl
    by_cases h1 : y + d + 1 < n
    · refine ⟨1, [-y], d, InG.one n, in_one hx.1 (by omega) (by omega), hd, one _ _ ?_⟩
      rw [es]
      exact GQ.comm_inv (cG_low hy (by omega) hd).symm
    · by_cases h2 : y = n - 1 - d
      · refine ⟨(gx y).inv, [], d + 1, (InG.gx (by omega) (by omega) (by omega)).inv, in_nil _, by omega, ?_⟩
        rw [es, (aV_hom n).inv, aV_one, aL, if_pos hy, show (n - 1 - y).toNat = d by omega, cG_succ, aG, ← h2, GQ.mk_nil]
        simp [GQ.mul_assoc]
      · by_cases h3 : y = n - d
        · obtain ⟨m, rfl⟩ : ∃ m, d = m + 1 := ⟨d - 1, by omega⟩
          refine ⟨1, [], m, InG.one n, in_nil _, by omega, one _ _ ?_⟩
          have e : n - 1 - (m : Int) = y := by omega
          rw [es, cG_succ, e, GQ.mul_assoc, GQ.mul_inv, GQ.mul_one, GQ.mk_nil, GQ.one_mul]
        · refine ⟨1, [-(y - 1)], d, InG.one n, in_one (by omega) (by omega) (by omega), hd, one _ _ ?_⟩
          have h := cG_high (n := n) (d := d) (i := y) (by omega) (by omega) hd
          rw [es, show (GQ.mk [-(y - 1)] : BG n) = (bs (y - 1)).inv from rfl]
          apply GQ.left_cancel (a := bs (y - 1))
          rw [GQ.mul_inv_left, ← GQ.mul_assoc, ← h, GQ.mul_assoc, GQ.mul_inv, GQ.mul_one]
theorem aV_conj_word {n : Int} (c : List Int) (hc : In (n - 1) c) (u : FG) (hu : InG n u) : ∃ u', InG n u' ∧ (GQ.mk c * aV n u : BG n) = aV n u' * GQ.mk c := by
  induction c generalizing u with
  | nil => exact ⟨u, hu, by rw [GQ.mk_nil, GQ.one_mul, GQ.mul_one]⟩
  | cons y c ih =>
    obtain ⟨u1, k1, e1⟩ := ih (fun z hz => hc z (by simp [hz])) u hu
    have hy := hc y (by simp)
    have h1 : ∃ u', InG n u' ∧ (GQ.mk [y] * aV n u1 * (GQ.mk [y]).inv : BG n) = aV n u' := by
      by_cases h0 : 0 < y
      · exact aV_conj (bs y) (fun j j1 j2 => aV_conj1 h0 (by omega) j1 j2) u1 k1
      · have e : (GQ.mk [y] : BG n) = (bs (-y)).inv := by rw [← bs_neg, Int.neg_neg]; rfl
        rw [e]
        exact aV_conj (bs (-y)).inv (fun j j1 j2 => aV_conj2 (by omega) (by omega) j1 j2) u1 k1
    obtain ⟨u2, k2, e2⟩ := h1
    refine ⟨u2, k2, ?_⟩
    rw [← e2, GQ.mk_cons, GQ.mul_assoc (GQ.mk [y]) (GQ.mk c), e1]
    simp [GQ.mul_assoc]
/-- Every word is pure braids round the last strand, a word on the others, and a way back for the last. -/
theorem comb {n : Int} (hn : 0 < n) (w : List Int) (hw : In n w) : ∃ (u : FG) (b : List Int) (d : Nat), InG n u ∧ In (n - 1) b ∧ (d : Int) < n ∧ (GQ.mk w : BG n) = aV n u * GQ.mk b * cG d := by
  rcases nil_or_snoc w with rfl | ⟨l, x, rfl⟩
  · exact ⟨1, [], 0, InG.one n, in_nil _, by omega, by rw [(aV_hom n).one]; rfl⟩
  · have hlt : l.length < (l ++ [x]).length := by simp
    obtain ⟨u, b, d, hu, hb, hd, e⟩ := comb hn l fun y hy => hw y (by simp [hy])
    obtain ⟨v, c, d', hv, hc, hd', e2⟩ := comb_step hd (hw x (by simp))
    obtain ⟨v', hv', e3⟩ := aV_conj_word b hb v hv
    refine ⟨u * v', b ++ c, d', hu.mul hv', hb.append hc, hd', ?_⟩
    rw [GQ.mk_append, e, GQ.mul_assoc _ (cG d), e2, aV_hom, GQ.mk_append]
    simp only [GQ.mul_assoc]
    rw [← GQ.mul_assoc (GQ.mk b), e3]
    simp only [GQ.mul_assoc]
termination_by w.length
/-- The action of an element of the group of braids. -/
def phiG {n : Int} : BG n → FG → FG := Quotient.lift (s := gSet (BrR n)) phi fun _ _ h => phi_gen h
section
variable {n : Int}
theorem phiG_mk (w : List Int) (x : FG) : phiG (GQ.mk w : BG n) x = phi w x := rfl
theorem phiG_bs (i : Int) (x : FG) : phiG (bs i : BG n) x = SL i x := rfl
theorem phiG_mul (a b : BG n) (x : FG) : phiG (a * b) x = phiG b (phiG a x) := by
  refine GQ.ind (p := fun a => phiG (a * b) x = phiG b (phiG a x)) (fun a => ?_) a
  refine GQ.ind (p := fun b => phiG (GQ.mk a * b) x = phiG b (phiG (GQ.mk a) x)) (fun b => ?_) b
  exact phi_append a b x
theorem phiG_one (x : FG) : phiG (1 : BG n) x = x := rfl
theorem phiG_hom (a : BG n) : IsHom (phiG a) := GQ.ind (p := fun a => IsHom (phiG a)) (fun a => phi_hom a) a
theorem phiG_inv (a : BG n) (x : FG) : phiG a.inv (phiG a x) = x := by rw [← phiG_mul, GQ.mul_inv, phiG_one]
theorem phiG_inv' (a : BG n) (x : FG) : phiG a (phiG a.inv x) = x := by rw [← phiG_mul, GQ.inv_mul, phiG_one]
theorem phi_cG_n {d : Nat} (h : (d : Int) < n) : phiG (cG d : BG n) (gx n) = gx (n - d) := by
  induction d with
  | zero => rw [cG_zero, phiG_one]; simp
  | succ d ih =>
    rw [cG_succ, phiG_mul, ih (by omega), phiG_bs, show n - (d : Int) = (n - 1 - d) + 1 by omega, SP_2 (by omega)]
    congr 1; omega
theorem phi_cG_low {d : Nat} {j : Int} (h0 : 0 ≤ j) (h : j < n - d) (hd : (d : Int) < n) : phiG (cG d : BG n) (gx j) = gx j := by
  induction d with
  | zero => rfl
  | succ d ih => rw [cG_succ, phiG_mul, ih (by omega) (by omega), phiG_bs, SP_3 (by omega) h0 (by omega) (by omega)]
end
/-- The homomorphism that kills a generator. -/
def kill (k : Int) : FG → FG := lift (fun x => if x = k ∨ x = -k then 1 else gx x) (fun x => by
  by_cases h : x = k ∨ x = -k
  · rw [if_pos h, if_pos (by omega), GQ.inv_one]
  · rw [if_neg h, if_neg (by omega), gx_neg]) fun _ _ h => h.elim
theorem kill_hom (k : Int) : IsHom (kill k) := lift_hom _ _ _
theorem kill_at (k : Int) : kill k (gx k) = 1 := by
  unfold kill
  show lift _ _ _ (GQ.mk [k]) = _
  rw [lift_one, if_pos (.inl rfl)]
theorem kill_not {k j : Int} (h1 : j ≠ k) (h2 : j ≠ -k) : kill k (gx j) = gx j := by
  unfold kill
  show lift _ _ _ (GQ.mk [j]) = _
  rw [lift_one, if_neg (by omega)]
theorem kill_fac {B : List Int → List Int → Prop} {h : FG → GQ B} (hh : IsHom h) {k : Int} (h0 : 0 < k) (h1 : h (gx k) = 1) (x : FG) : h (kill k x) = h x := by
  refine hom_ext (hh.comp (kill_hom k)) hh (fun j hj => ?_) x
  show h (kill k (gx j)) = h (gx j)
  by_cases e : j = k
  · subst e; rw [kill_at, hh.one, h1]
  · rw [kill_not e (by omega)]
theorem kill_two {j : Int} (h : 0 < j) (x : FG) : kill (j + 1) (SL j (SL j x)) = kill (j + 1) x := by
  refine hom_ext ((kill_hom _).comp ((SL_hom j).comp (SL_hom j))) (kill_hom _) (fun i hi => ?_) x
  show kill (j + 1) (SL j (SL j (gx i))) = kill (j + 1) (gx i)
  by_cases h1 : i = j
  · subst h1
    rw [SP_1 h, SL_hom, SL_hom, (SL_hom _).inv, SP_1 h, SP_2 h]
    simp only [kill_hom _ _ _, (kill_hom _).inv, kill_at, kill_not (show i ≠ i + 1 by omega) (show i ≠ -(i + 1) by omega)]
    simp
  · by_cases h2 : i = j + 1
    · subst h2
      rw [SP_2 h, SP_1 h, kill_hom, kill_hom, (kill_hom _).inv, kill_at, GQ.mul_one, GQ.mul_inv]
    · rw [SP_3 h hi h1 h2, SP_3 h hi h1 h2]
theorem kill_aG {n : Int} {d : Nat} (hd : (d : Int) + 1 < n) (x : FG) : kill n (phiG (aG d : BG n) x) = kill n x := by
  have hh : IsHom fun x => kill n (phiG (cG d : BG n).inv x) := (kill_hom n).comp (phiG_hom _)
  have hk : kill n (phiG (cG d : BG n).inv (gx ((n - 1 - d) + 1))) = 1 := by
    rw [show (n - 1 - (d : Int)) + 1 = n - d by omega, ← phi_cG_n (n := n) (d := d) (by omega), phiG_inv, kill_at]
  rw [aG, phiG_mul, phiG_mul, phiG_mul, phiG_bs, phiG_bs]
  have h1 := kill_fac hh (k := (n - 1 - d) + 1) (by omega) hk
  have e1 := h1 (SL (n - 1 - d) (SL (n - 1 - d) (phiG (cG d : BG n) x)))
  rw [kill_two (by omega), h1] at e1
  rw [← e1, phiG_inv]
theorem kill_aL {n y : Int} (h0 : y ≠ 0) (h1 : 1 - n ≤ y) (h2 : y ≤ n - 1) (x : FG) : kill n (phiG (aL n y : BG n) x) = kill n x := by
  unfold aL
  by_cases h : 0 < y
  · rw [if_pos h, kill_aG (by omega)]
  · rw [if_neg h, if_pos (by omega), ← kill_aG (n := n) (d := (n - 1 + y).toNat) (by omega), phiG_inv']
theorem kill_aV {n : Int} (l : List Int) (hl : In n l) (x : FG) : kill n (phiG (aV n (GQ.mk l)) x) = kill n x := by
  induction l generalizing x with
  | nil => rw [GQ.mk_nil, (aV_hom n).one, phiG_one]
  | cons y l ih =>
    have := hl y (by simp)
    rw [GQ.mk_cons, aV_hom, phiG_mul, ih (fun z hz => hl z (by simp [hz])), show aV n (GQ.mk [y]) = aL n y from aV_one n y, kill_aL this.1 this.2.1 this.2.2]
theorem phi_aG_n {n : Int} {d : Nat} (hd : (d : Int) + 1 < n) : phiG (aG d : BG n) (gx n) = gx (n - 1 - d) * gx n * (gx (n - 1 - d)).inv := by
  have e : n - (d : Int) = (n - 1 - d) + 1 := by omega
  have c1 : phiG (cG d : BG n).inv (gx (n - 1 - d)) = gx (n - 1 - d) := by
    have := phiG_inv (cG d : BG n) (gx (n - 1 - d))
    rwa [phi_cG_low (by omega) (by omega) (by omega)] at this
  have c2 : phiG (cG d : BG n).inv (gx ((n - 1 - d) + 1)) = gx n := by
    rw [← e, ← phi_cG_n (n := n) (d := d) (by omega), phiG_inv]
  rw [aG, phiG_mul, phiG_mul, phiG_mul, phiG_bs, phiG_bs, phi_cG_n (by omega), e, SP_2 (by omega), SP_1 (by omega), phiG_hom, phiG_hom, (phiG_hom _).inv, c1, c2]
theorem phi_aL_n {n y : Int} (h0 : y ≠ 0) (h1 : 1 - n ≤ y) (h2 : y ≤ n - 1) : ∃ Z : FG, phiG (aL n y : BG n) (gx n) = Z * gx n * Z.inv ∧ kill n Z = gx y := by
  unfold aL
  by_cases h : 0 < y
  · rw [if_pos h]
    refine ⟨gx y, ?_, kill_not (by omega) (by omega)⟩
    have := phi_aG_n (n := n) (d := (n - 1 - y).toNat) (by omega)
    rwa [show n - 1 - (((n - 1 - y).toNat : Nat) : Int) = y by omega] at this
  · rw [if_neg h, if_pos (by omega)]
    have h3 := phi_aG_n (n := n) (d := (n - 1 + y).toNat) (by omega)
    rw [show n - 1 - (((n - 1 + y).toNat : Nat) : Int) = -y by omega] at h3
    have h4 := congrArg (phiG (aG (n - 1 + y).toNat : BG n).inv) h3
    rw [phiG_inv, phiG_hom, phiG_hom, (phiG_hom _).inv] at h4
    refine ⟨(phiG (aG (n - 1 + y).toNat : BG n).inv (gx (-y))).inv, ?_, ?_⟩
    · generalize phiG (aG (n - 1 + y).toNat : BG n).inv (gx (-y)) = z at h4
      generalize phiG (aG (n - 1 + y).toNat : BG n).inv (gx n) = t at h4
      rw [h4]
      simp [GQ.mul_assoc]
    · rw [(kill_hom n).inv, ← kill_aG (n := n) (d := (n - 1 + y).toNat) (by omega), phiG_inv', kill_not (by omega) (by omega), gx_neg, GQ.inv_inv]
theorem phi_aV_n {n : Int} (l : List Int) (hl : In n l) : ∃ G : FG, phiG (aV n (GQ.mk l)) (gx n) = G * gx n * G.inv ∧ kill n G = GQ.mk l := by
  induction l with
  | nil => exact ⟨1, by rw [GQ.mk_nil, (aV_hom n).one, phiG_one]; simp, (kill_hom n).one⟩
  | cons y l ih =>
    obtain ⟨G, h1, h2⟩ := ih fun z hz => hl z (by simp [hz])
    have hy := hl y (by simp)
    obtain ⟨Z, k1, k2⟩ := phi_aL_n hy.1 hy.2.1 hy.2.2
    refine ⟨phiG (aV n (GQ.mk l)) Z * G, ?_, ?_⟩
    · rw [GQ.mk_cons, aV_hom, phiG_mul, show aV n (GQ.mk [y]) = aL n y from aV_one n y, k1, phiG_hom, phiG_hom, (phiG_hom _).inv, h1]
      simp [GQ.mul_assoc]
    · rw [kill_hom, kill_aV l fun z hz => hl z (by simp [hz]), k2, h2, GQ.mk_cons]; rfl
/-- What commutes with a generator is a power of it: it dies with it. -/
theorem kill_central {k : Int} (h0 : 0 < k) (g : List Int) (hg : Rdc g) (h : (GQ.mk g * gx k * (GQ.mk g).inv : FG) = gx k) : kill k (GQ.mk g) = 1 := by
  rcases nil_or_snoc g with rfl | ⟨l, x, rfl⟩
  · exact (kill_hom k).one
  · have hlt : l.length < (l ++ [x]).length := by simp
    by_cases hx : x = k ∨ x = -k
    · have ih := kill_central h0 l (rdc_append.1 hg).1
      have e1 : kill k (GQ.mk [x] : FG) = 1 := by
        unfold kill; rw [lift_one, if_pos hx]
      rw [GQ.mk_append, kill_hom, e1, GQ.mul_one]
      apply ih
      rw [GQ.mk_append] at h
      have e2 : (GQ.mk [x] * gx k * (GQ.mk [x]).inv : FG) = gx k := by
        rcases hx with rfl | rfl
        · show gx x * gx x * (gx x).inv = gx x
          rw [GQ.mul_assoc, GQ.mul_inv, GQ.mul_one]
        · show (gx k).inv * gx k * (gx k).inv.inv = gx k
          simp
      have e3 : (GQ.mk l * GQ.mk [x] * gx k * (GQ.mk l * GQ.mk [x]).inv : FG) = GQ.mk l * (GQ.mk [x] * gx k * (GQ.mk [x]).inv) * (GQ.mk l).inv := by simp [GQ.mul_assoc]
      rw [e3, e2] at h
      exact h
    · exfalso
      have e : (GQ.mk ((l ++ [x]) ++ [k] ++ inv (l ++ [x])) : FG) = GQ.mk [k] := h
      have h1 := fg_eq.1 e
      have hr : Rdc ((l ++ [x]) ++ [k] ++ inv (l ++ [x])) := by
        refine rdc_append.2 ⟨rdc_append.2 ⟨hg, trivial, fun a b ha hb => ?_⟩, rdc_inv hg, fun a b ha hb => ?_⟩
        · simp at ha hb; omega
        · rw [inv_snoc] at hb
          simp at ha hb
          omega
      rw [red_of_rdc hr, red_of_rdc (show Rdc [k] from trivial)] at h1
      have := congrArg List.length h1
      simp at this
      omega
termination_by g.length
theorem gx_ne_one {k : Int} : gx k ≠ 1 := fun h => by
  have h1 := fg_eq.1 (show (GQ.mk [k] : FG) = GQ.mk [] from h)
  rw [red_of_rdc (show Rdc [k] from trivial)] at h1
  cases h1
theorem phi_low {n : Int} (b : List Int) (hb : In (n - 1) b) : phi b (gx n) = gx n ∧ ∀ x, kill n (phi b x) = phi b (kill n x) := by
  induction b with
  | nil => exact ⟨rfl, fun _ => rfl⟩
  | cons y b ih =>
    obtain ⟨i1, i2⟩ := ih fun z hz => hb z (by simp [hz])
    have hy := hb y (by simp)
    have key : SL y (gx n) = gx n ∧ ∀ x, kill n (SL y x) = SL y (kill n x) := by
      by_cases h0 : 0 < y
      · refine ⟨SP_3 h0 (by omega) (by omega) (by omega), fun x => ?_⟩
        refine hom_ext ((kill_hom n).comp (SL_hom y)) ((SL_hom y).comp (kill_hom n)) (fun j hj => ?_) x
        show kill n (SL y (gx j)) = SL y (kill n (gx j))
        by_cases hn : j = n
        · subst hn; rw [SP_3 h0 hj (by omega) (by omega), kill_at, (SL_hom y).one]
        · rw [kill_not (j := j) hn (by omega)]
          by_cases h1 : j = y
          · subst h1
            rw [SP_1 h0]
            simp only [kill_hom _ _ _, (kill_hom _).inv, kill_not (k := n) (j := j) hn (by omega), kill_not (k := n) (j := j + 1) (by omega) (by omega)]
          · by_cases h2 : j = y + 1
            · subst h2; rw [SP_2 h0, kill_not (by omega) (by omega)]
            · rw [SP_3 h0 hj h1 h2, kill_not hn (by omega)]
      · obtain ⟨i, rfl⟩ : ∃ i, y = -i := ⟨-y, by omega⟩
        have h0 : 0 < i := by omega
        refine ⟨SN_3 h0 (by omega) (by omega) (by omega), fun x => ?_⟩
        refine hom_ext ((kill_hom n).comp (SL_hom _)) ((SL_hom _).comp (kill_hom n)) (fun j hj => ?_) x
        show kill n (SL (-i) (gx j)) = SL (-i) (kill n (gx j))
        by_cases hn : j = n
        · subst hn; rw [SN_3 h0 hj (by omega) (by omega), kill_at, (SL_hom _).one]
        · rw [kill_not (j := j) hn (by omega)]
          by_cases h1 : j = i
          · subst h1
            rw [SN_1 h0, kill_not (by omega) (by omega)]
          · by_cases h2 : j = i + 1
            · subst h2
              rw [SN_2 h0]
              simp only [kill_hom _ _ _, (kill_hom _).inv, kill_not (k := n) (j := i + 1) hn (by omega), kill_not (k := n) (j := i) (by omega) (by omega)]
            · rw [SN_3 h0 hj h1 h2, kill_not hn (by omega)]
    refine ⟨?_, fun x => ?_⟩
    · show phi b (SL y (gx n)) = gx n
      rw [key.1, i1]
    · show kill n (phi b (SL y x)) = phi b (SL y (kill n x))
      rw [i2, key.2]
theorem phi_high {w : List Int} {m : Int} (hw : In m w) {j : Int} (h : j = 0 ∨ m < j) : phi w (gx j) = gx j := by
  induction w with
  | nil => rfl
  | cons y w ih =>
    have hy := hw y (by simp)
    have : SL y (gx j) = gx j := by
      by_cases h0 : 0 < y
      · exact SP_3 h0 (by omega) (by omega) (by omega)
      · have := SN_3 (i := -y) (j := j) (by omega) (by omega) (by omega) (by omega)
        rwa [Int.neg_neg] at this
    show phi w (SL y (gx j)) = gx j
    rw [this, ih fun z hz => hw z (by simp [hz])]
/-- A word that acts as the identity is trivial. -/
theorem faith (n : Nat) (w : List Int) (hw : In n w) (h : ∀ j : Int, 0 < j → j ≤ n → phi w (gx j) = gx j) : Gen (BrR n) w [] := by
  induction n generalizing w with
  | zero =>
    cases w with
    | nil => exact .refl _
    | cons x w => have := hw x (by simp); omega
  | succ n ih =>
    have hid : ∀ x, phi w x = x := fun x => hom_ext (phi_hom w) isHom_id (fun j hj => by
      show phi w (gx j) = gx j
      by_cases h1 : j = 0 ∨ ((n + 1 : Nat) : Int) < j
      · exact phi_high hw h1
      · exact h j (by omega) (by omega)) x
    obtain ⟨u, b, d, ⟨l, hl, rfl⟩, hb, hd, e⟩ := comb (n := ((n + 1 : Nat) : Int)) (by omega) w hw
    have e' : ∀ x, phi w x = phiG (cG d : BG ((n + 1 : Nat) : Int)) (phi b (phiG (aV ((n + 1 : Nat) : Int) (GQ.mk l)) x)) := fun x => by
      rw [← phiG_mk (n := ((n + 1 : Nat) : Int)) w, e, phiG_mul, phiG_mul, phiG_mk]
    obtain ⟨G, hG, hG2⟩ := phi_aV_n l hl
    obtain ⟨b1, b2⟩ := phi_low b hb
    have hd0 : d = 0 := by
      have h1 := hid (gx ((n + 1 : Nat) : Int))
      rw [e', hG, phi_hom, phi_hom, (phi_hom _).inv, b1, phiG_hom, phiG_hom, (phiG_hom _).inv, phi_cG_n hd] at h1
      have h2 := congrArg (kill (((n + 1 : Nat) : Int) - d)) h1
      rw [kill_hom, kill_hom, (kill_hom _).inv, kill_at, GQ.mul_one, GQ.mul_inv] at h2
      by_cases h0 : d = 0
      · exact h0
      · rw [kill_not (by omega) (by omega)] at h2
        exact (gx_ne_one h2.symm).elim
    subst hd0
    have hb' : In n b := by rwa [show ((n + 1 : Nat) : Int) - 1 = n by omega] at hb
    have hbt : Gen (BrR n) b [] := by
      refine ih b hb' fun j j1 j2 => ?_
      have h1 := congrArg (kill ((n + 1 : Nat) : Int)) (hid (gx j))
      rw [e', cG_zero, phiG_one, b2, kill_aV l hl, kill_not (by omega) (by omega)] at h1
      exact h1
    have hbt' : (GQ.mk b : BG ((n + 1 : Nat) : Int)) = 1 := GQ.eq.2 (hbt.mono fun _ _ k => k.mono (by omega))
    have hu : (GQ.mk l : FG) = 1 := by
      have h1 := hid (gx ((n + 1 : Nat) : Int))
      rw [e', hG, cG_zero, phiG_one, phi_gen hbt] at h1
      have h3 : G * gx ((n + 1 : Nat) : Int) * G.inv = gx ((n + 1 : Nat) : Int) := h1
      rw [← hG2]
      clear h1 hG hG2
      obtain ⟨g, rfl⟩ : ∃ g, G = GQ.mk g := GQ.ind (p := fun G => ∃ g, G = GQ.mk g) (fun g => ⟨g, rfl⟩) G
      rw [← mk_red] at h3 ⊢
      exact kill_central (by omega) _ (rdc_red g) h3
    apply GQ.eq.1
    rw [e, hu, hbt', (aV_hom _).one]
    rfl
end Go.Proofs.Ytcinnbkhnonijaa
