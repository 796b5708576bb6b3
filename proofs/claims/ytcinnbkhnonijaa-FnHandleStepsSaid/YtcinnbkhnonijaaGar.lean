/-
  Plain law: the list of permutations of a braid word (each letter one; an inverse letter turns all before it and counts a half twist), and that equal words have lists that moves bring together. No program in sight.
-/
import Derived.Test.YtcinnbkhnonijaaPm
namespace Go.Proofs.Ytcinnbkhnonijaa
set_option maxRecDepth 10000

def comp (x y : Pm) : Pm := ⟨fun i => y.f (x.f i), fun v => x.g (y.g v), fun v => by simp only [x.fg, y.fg], fun i => by simp only [y.gf, x.gf]⟩
/-- No inversion of x is undone by y. -/
def Red (x y : Pm) : Prop := ∀ u v, u < v → x.g v < x.g u → y.f u < y.f v
theorem Sup.comp {n : Int} {x y : Pm} (hx : Sup n x) (hy : Sup n y) : Sup n (comp x y) := fun i hi => by
  show y.f (x.f i) = i
  rw [hx i hi, hy i hi]
theorem rises {n : Nat} {y : Pm} (hs : Sup n y) (h : ∀ k : Int, 0 < k → k < n → ¬ Sta k y) : y = pOne := by
  have up : ∀ i : Nat, i < n → (i : Int) ≤ y.f i := by
    intro i
    induction i with
    | zero => intro hi; exact (hs.rg (Int.le_refl 0) (by omega)).1
    | succ i ih =>
      intro hi
      have h1 := ih (by omega)
      have h2 := h ((i + 1 : Nat) : Int) (by omega) (by omega)
      unfold Sta at h2
      rw [show ((i + 1 : Nat) : Int) - 1 = i by omega] at h2
      by_cases e : y.f i = y.f ((i + 1 : Nat) : Int)
      · have := y.inj e; omega
      · omega
  have down : ∀ j i : Nat, i + j + 1 = n → y.f i ≤ (i : Int) := by
    intro j
    induction j with
    | zero => intro i hi; have := (hs.rg (x := i) (by omega) (by omega)).2; omega
    | succ j ih =>
      intro i hi
      have h1 := ih (i + 1) (by omega)
      have h2 := h ((i + 1 : Nat) : Int) (by omega) (by omega)
      unfold Sta at h2
      rw [show ((i + 1 : Nat) : Int) - 1 = i by omega] at h2
      by_cases e : y.f i = y.f ((i + 1 : Nat) : Int)
      · have := y.inj e; omega
      · omega
  refine Pm.ext_ fun x => ?_
  show y.f x = x
  by_cases hx : x < 0 ∨ (n : Int) ≤ x
  · exact hs x hx
  · have h1 := up x.toNat (by omega)
    have h2 := down (n - 1 - x.toNat) x.toNat (by omega)
    rw [show ((x.toNat : Nat) : Int) = x by omega] at h1 h2
    omega
/-- Two permutations whose product loses no letter: all letters of the second go into the first. -/
theorem merge {n : Nat} (x y : Pm) (hx : Sup n x) (hy : Sup n y) (h : Red x y) : Mvs n [x, y] [comp x y, pOne] := by
  by_cases hk : ∃ k : Int, 0 < k ∧ k < n ∧ Sta k y
  · obtain ⟨k, k0, k1, sk⟩ := hk
    have hf : ¬ Fi k x := by
      intro hf
      have h2 : y.f (k - 1) < y.f k := h (k - 1) k (by omega) hf
      unfold Sta at sk
      omega
    have hlt := wt_beh hx k0 k1 hf
    have ih := merge (beh x k) (bef k y) (hx.beh k0 k1) (hy.bef k0 k1) (by
      intro u v huv hg
      have hg' : x.g (tr k v) < x.g (tr k u) := hg
      show y.f (tr k u) < y.f (tr k v)
      rcases tr_lt (k := k) huv with h1 | ⟨rfl, rfl⟩
      · exact h _ _ h1 hg'
      · rw [tr_lo, tr_hi]; exact sk)
    have e : comp (beh x k) (bef k y) = comp x y := Pm.ext_ fun i => by
      show y.f (tr k (tr k (x.f i))) = y.f (x.f i)
      rw [tr_tr]
    rw [e] at ih
    exact .head (.here _ _ _ k k0 k1 hf sk) ih
  · have : y = pOne := rises hy fun k k0 k1 hs => hk ⟨k, k0, k1, hs⟩
    subst this
    exact .refl _
termination_by wt n x
theorem one_back {n : Nat} (p : Pm) (hp : Sup n p) : Mvs n [pOne, p] [p, pOne] := by
  have := merge pOne p (Sup.one n) hp fun u v h1 h2 => by have : v < u := h2; omega
  exact this
theorem ones_back {n : Nat} (L : List Pm) (hL : Sups n L) : Mvs n (pOne :: L) (L ++ [pOne]) := by
  induction L with
  | nil => exact .refl _
  | cons p L ih => exact ((one_back p (hL p (by simp))).right L).trans ((ih fun x hx => hL x (by simp [hx])).cons p)
/-! ### The half twist -/
def hf (n x : Int) : Int := if 0 ≤ x ∧ x < n then n - 1 - x else x
theorem hf_hf (n x : Int) : hf n (hf n x) = x := by unfold hf; split <;> (try split) <;> omega
def pHalf (n : Int) : Pm := ⟨hf n, hf n, hf_hf n, hf_hf n⟩
theorem Sup.half (n : Int) : Sup n (pHalf n) := fun x hx => by show hf n x = x; unfold hf; rw [if_neg (by omega)]
theorem hf_in {n x : Int} (h0 : 0 ≤ x) (h1 : x < n) : hf n x = n - 1 - x := by unfold hf; rw [if_pos ⟨h0, h1⟩]
theorem hf_out {n x : Int} (h : x < 0 ∨ n ≤ x) : hf n x = x := by unfold hf; rw [if_neg (by omega)]
theorem fi_half {n k : Int} (h0 : 0 < k) (h1 : k < n) : Fi k (pHalf n) := by
  show hf n k < hf n (k - 1)
  rw [hf_in (by omega) h1, hf_in (by omega) (by omega)]; omega
theorem merge_half {n : Nat} {x y : Pm} (hx : Sup n x) (hy : Sup n y) (h : comp x y = pHalf n) : Mvs n [x, y] [pHalf n, pOne] := by
  rw [← h]
  refine merge x y hx hy fun u v huv hg => ?_
  have key : ∀ u, y.f u = hf n (x.g u) := fun u => by
    have : (comp x y).f (x.g u) = hf n (x.g u) := by rw [h]; rfl
    rw [← this]
    show y.f u = y.f (x.f (x.g u))
    rw [x.fg]
  rw [key, key]
  by_cases hu : u < 0 ∨ (n : Int) ≤ u
  · have e1 := hx.g u hu
    by_cases hv : v < 0 ∨ (n : Int) ≤ v
    · have e2 := hx.g v hv; omega
    · have := hx.rgg (x := v) (by omega) (by omega); omega
  · have a := hx.rgg (x := u) (by omega) (by omega)
    by_cases hv : v < 0 ∨ (n : Int) ≤ v
    · have e2 := hx.g v hv; omega
    · have b := hx.rgg (x := v) (by omega) (by omega)
      rw [hf_in a.1 a.2, hf_in b.1 b.2]; omega
/-- A permutation seen from behind. -/
def pFlip (n : Int) (p : Pm) : Pm := ⟨fun i => hf n (p.f (hf n i)), fun v => hf n (p.g (hf n v)), fun v => by simp only [hf_hf, p.fg], fun i => by simp only [hf_hf, p.gf]⟩
theorem Sup.flip {n : Int} {p : Pm} (h : Sup n p) : Sup n (pFlip n p) := fun x hx => by
  show hf n (p.f (hf n x)) = x
  rw [hf_out hx, h x hx, hf_out hx]
theorem flip_flip (n : Int) (p : Pm) : pFlip n (pFlip n p) = p := Pm.ext_ fun x => by
  show hf n (hf n (p.f (hf n (hf n x)))) = _
  rw [hf_hf, hf_hf]
theorem hf_tr {n k : Int} (h0 : 0 < k) (h1 : k < n) (x : Int) : hf n (tr k x) = tr (n - k) (hf n x) := by
  by_cases a : x = k - 1
  · subst a
    rw [tr_lo, hf_in (by omega) h1, hf_in (by omega) (by omega), show n - 1 - (k - 1) = n - k by omega, tr_hi]; omega
  · by_cases b : x = k
    · subst b
      rw [tr_hi, hf_in (by omega) (by omega), hf_in (by omega) h1, show n - 1 - x = n - x - 1 by omega, tr_lo]; omega
    · rw [tr_no a b]
      by_cases c : x < 0 ∨ n ≤ x
      · rw [hf_out c, tr_no (by omega) (by omega)]
      · rw [hf_in (by omega) (by omega), tr_no (by omega) (by omega)]
theorem flip_beh {n k : Int} (h0 : 0 < k) (h1 : k < n) (p : Pm) : pFlip n (beh p k) = beh (pFlip n p) (n - k) := Pm.ext_ fun _ => hf_tr h0 h1 _
theorem flip_bef {n k : Int} (h0 : 0 < k) (h1 : k < n) (p : Pm) : pFlip n (bef k p) = bef (n - k) (pFlip n p) := Pm.ext_ fun x => by
  show hf n (p.f (tr k (hf n x))) = hf n (p.f (hf n (tr (n - k) x)))
  rw [hf_tr (k := n - k) (by omega) (by omega), show n - (n - k) = k by omega]
theorem flip_mv {n : Int} {a b : List Pm} (h : Mv n a b) (hs : Sups n a) : Mv n (a.map (pFlip n)) (b.map (pFlip n)) := by
  induction h with
  | here p q r k h0 h1 h2 h3 =>
    have hp := hs p (by simp)
    have hq := hs q (by simp)
    simp only [List.map_cons]
    rw [flip_beh h0 h1, flip_bef h0 h1]
    refine .here _ _ _ (n - k) (by omega) (by omega) ?_ ?_
    · show ¬ hf n (p.g (hf n (n - k))) < hf n (p.g (hf n (n - k - 1)))
      rw [hf_in (n := n) (x := n - k) (by omega) (by omega), hf_in (n := n) (x := n - k - 1) (by omega) (by omega), show n - 1 - (n - k) = k - 1 by omega, show n - 1 - (n - k - 1) = k by omega]
      have a := hp.rgg (x := k - 1) (by omega) (by omega)
      have b := hp.rgg (x := k) (by omega) (by omega)
      have := not_fi h2
      rw [hf_in a.1 a.2, hf_in b.1 b.2]; omega
    · show hf n (q.f (hf n (n - k))) < hf n (q.f (hf n (n - k - 1)))
      rw [hf_in (n := n) (x := n - k) (by omega) (by omega), hf_in (n := n) (x := n - k - 1) (by omega) (by omega), show n - 1 - (n - k) = k - 1 by omega, show n - 1 - (n - k - 1) = k by omega]
      have a := hq.rg (x := k - 1) (by omega) (by omega)
      have b := hq.rg (x := k) (by omega) (by omega)
      unfold Sta at h3
      rw [hf_in a.1 a.2, hf_in b.1 b.2]; omega
  | cons p _ ih => exact .cons _ (ih fun x hx => hs x (by simp [hx]))
theorem flip_mvs {n : Int} {a b : List Pm} (h : Mvs n a b) (hs : Sups n a) : Mvs n (a.map (pFlip n)) (b.map (pFlip n)) := by
  induction h with
  | refl a => exact .refl _
  | head h _ ih => exact .head (flip_mv h hs) (ih (h.sups hs))
theorem flip_jn {n : Int} {a b : List Pm} (h : Jn n a b) (ha : Sups n a) (hb : Sups n b) : Jn n (a.map (pFlip n)) (b.map (pFlip n)) :=
  h.elim fun _ h => ⟨_, flip_mvs h.1 ha, flip_mvs h.2 hb⟩
theorem flip_one (n : Int) : pFlip n pOne = pOne := Pm.ext_ fun x => hf_hf n x
theorem flip_half (n : Int) : pFlip n (pHalf n) = pHalf n := Pm.ext_ fun x => by show hf n (hf n (hf n x)) = hf n x; rw [hf_hf]
theorem Sups.flip {n : Int} {L : List Pm} (h : Sups n L) : Sups n (L.map (pFlip n)) := fun x hx => by
  obtain ⟨p, hp, rfl⟩ := List.mem_map.1 hx
  exact (h p hp).flip
theorem Sups.append {n : Int} {a b : List Pm} (h : Sups n a) (k : Sups n b) : Sups n (a ++ b) := fun x hx => (List.mem_append.1 hx).elim (h x) (k x)
theorem Sups.cons {n : Int} {p : Pm} {b : List Pm} (h : Sup n p) (k : Sups n b) : Sups n (p :: b) := fun x hx => by
  rcases List.mem_cons.1 hx with rfl | hx
  · exact h
  · exact k x hx
theorem sups_nil (n : Int) : Sups n [] := fun x hx => absurd hx (by simp)
/-! ### What can be cut away -/
theorem irr_half {n : Int} {a : List Pm} (h : Irr n a) : Irr n (pHalf n :: a) := by
  intro b hb
  cases hb with
  | here _ q r k h0 h1 h2 h3 => exact h2 (fi_half h0 h1)
  | cons _ hb => exact h _ hb
theorem irr_one {n : Int} {a : List Pm} (h : Irr n a) : Irr n (a ++ [pOne]) := by
  induction a with
  | nil => intro b hb; cases hb with | cons _ hb => cases hb
  | cons p a ih =>
    intro b hb
    have ha : Irr n a := fun c hc => h _ (.cons p hc)
    cases a with
    | nil =>
      cases hb with
      | here _ _ _ k h0 h1 h2 h3 => have : k < k - 1 := h3; omega
      | cons _ hb => exact ih ha _ hb
    | cons q a =>
      cases hb with
      | here _ _ _ k h0 h1 h2 h3 => exact h _ (.here p q a k h0 h1 h2 h3)
      | cons _ hb => exact ih ha _ hb
theorem jn_cut_half {n : Nat} {a b : List Pm} (ha : Sups n a) (hb : Sups n b) (h : Jn n (pHalf n :: a) (pHalf n :: b)) : Jn n a b := by
  obtain ⟨a', a1, a2⟩ := irr_ex n a ha
  obtain ⟨b', b1, b2⟩ := irr_ex n b hb
  have s1 : Sups n (pHalf n :: a) := ha.cons (Sup.half n)
  have s2 : Sups n (pHalf n :: b) := hb.cons (Sup.half n)
  have h1 : Jn n (pHalf n :: a') (pHalf n :: b') := (((Jn.of (a1.cons (pHalf n))).symm).trans h s1).trans (Jn.of (b1.cons (pHalf n))) s2
  have h2 := h1.irr (irr_half a2) (irr_half b2)
  injection h2 with _ h2
  subst h2
  exact ⟨a', a1, b1⟩
theorem jn_cut_one {n : Nat} {a b : List Pm} (ha : Sups n a) (hb : Sups n b) (h : Jn n (a ++ [pOne]) (b ++ [pOne])) : Jn n a b := by
  obtain ⟨a', a1, a2⟩ := irr_ex n a ha
  obtain ⟨b', b1, b2⟩ := irr_ex n b hb
  have so : Sups n [pOne] := (sups_nil n).cons (Sup.one n)
  have h1 : Jn n (a' ++ [pOne]) (b' ++ [pOne]) := (((Jn.of (a1.right [pOne])).symm).trans h (ha.append so)).trans (Jn.of (b1.right [pOne])) (hb.append so)
  have h2 := h1.irr (irr_one a2) (irr_one b2)
  have h3 := List.append_cancel_right h2
  subst h3
  exact ⟨a', a1, b1⟩
/-- The half twist goes through all, which it turns. -/
theorem half_through1 {n : Nat} (p : Pm) (hp : Sup n p) : Jn n [pFlip n p, pHalf n] [pHalf n, p] := by
  obtain ⟨c, hc⟩ : ∃ c : Pm, c = ⟨fun i => hf n ((pFlip n p).g i), fun v => (pFlip n p).f (hf n v), fun v => by simp only [(pFlip n p).gf, hf_hf], fun i => by simp only [hf_hf, (pFlip n p).fg]⟩ := ⟨_, rfl⟩
  have sc : Sup n c := by
    subst hc
    intro x hx
    show hf n ((pFlip n p).g x) = x
    rw [hp.flip.g x hx, hf_out hx]
  have e1 : comp (pFlip n p) c = pHalf n := by
    subst hc
    exact Pm.ext_ fun i => by show hf n ((pFlip n p).g ((pFlip n p).f i)) = hf n i; rw [(pFlip n p).gf]
  have e2 : comp c p = pHalf n := by
    subst hc
    exact Pm.ext_ fun i => by
      show p.f (hf n (hf n (p.g (hf n i)))) = hf n i
      rw [hf_hf, p.fg]
  have m1 : Mvs n [pFlip n p, c, p] [pFlip n p, pHalf n, pOne] := (merge_half sc hp e2).cons _
  have m2 : Mvs n [pFlip n p, c, p] [pHalf n, p, pOne] := ((merge_half hp.flip sc e1).right [p]).trans ((one_back p hp).cons _)
  have s0 : Sups n [pFlip n p, c, p] := (((sups_nil n).cons hp).cons sc).cons hp.flip
  have h := (Jn.of m1).symm.trans (Jn.of m2) s0
  exact jn_cut_one (a := [pFlip n p, pHalf n]) (b := [pHalf n, p]) (((sups_nil n).cons (Sup.half n)).cons hp.flip) (((sups_nil n).cons hp).cons (Sup.half n)) h
theorem half_through {n : Nat} (L : List Pm) (hL : Sups n L) : Jn n (L.map (pFlip n) ++ [pHalf n]) (pHalf n :: L) := by
  induction L with
  | nil => exact Jn.refl _
  | cons p L ih =>
    have hp := hL p (by simp)
    have hL' : Sups n L := fun x hx => hL x (by simp [hx])
    have h1 : Jn n (pFlip n p :: (L.map (pFlip n) ++ [pHalf n])) (pFlip n p :: pHalf n :: L) := (ih hL').left [pFlip n p]
    have h2 : Jn n (pFlip n p :: pHalf n :: L) (pHalf n :: p :: L) := (half_through1 p hp).right L
    exact h1.trans h2 ((hL'.cons (Sup.half n)).cons hp.flip)
/-! ### The list of a word -/
def sig (k : Int) : Pm := beh pOne k
def step (n : Int) (s : Nat × List Pm) (x : Int) : Nat × List Pm :=
  if 0 < x ∧ x < n then (s.1, s.2 ++ [sig x]) else if x < 0 ∧ -n < x then (s.1 + 1, s.2.map (pFlip n) ++ [beh (pHalf n) (-x)]) else s
def run (n : Int) (s : Nat × List Pm) (w : List Int) : Nat × List Pm := w.foldl (step n) s
theorem run_append (n : Int) (s : Nat × List Pm) (a b : List Int) : run n s (a ++ b) = run n (run n s a) b := by simp [run]
theorem step_sups {n : Int} {s : Nat × List Pm} (h : Sups n s.2) (x : Int) : Sups n (step n s x).2 := by
  unfold step
  split
  · rename_i hx; exact h.append ((sups_nil n).cons ((Sup.one n).beh hx.1 hx.2))
  · split
    · rename_i hx; exact h.flip.append ((sups_nil n).cons ((Sup.half n).beh (by omega) (by omega)))
    · exact h
theorem run_sups {n : Int} {s : Nat × List Pm} (h : Sups n s.2) (w : List Int) : Sups n (run n s w).2 := by
  induction w generalizing s with
  | nil => exact h
  | cons x w ih => exact ih (step_sups h x)
/-- A list turned t times. -/
def flips (n : Int) : Nat → List Pm → List Pm
  | 0, L => L
  | t + 1, L => flips n t (L.map (pFlip n))
theorem flips_snoc (n : Int) (t : Nat) (L : List Pm) : flips n (t + 1) L = (flips n t L).map (pFlip n) := by
  induction t generalizing L with
  | zero => rfl
  | succ t ih => exact ih _
theorem flips_append (n : Int) (t : Nat) (a b : List Pm) : flips n t (a ++ b) = flips n t a ++ flips n t b := by
  induction t generalizing a b with
  | zero => rfl
  | succ t ih => simp [flips, ih]
theorem flips_sups {n : Int} (t : Nat) {L : List Pm} (h : Sups n L) : Sups n (flips n t L) := by
  induction t generalizing L with
  | zero => exact h
  | succ t ih => exact ih h.flip
theorem flips_jn {n : Int} (t : Nat) {a b : List Pm} (h : Jn n a b) (ha : Sups n a) (hb : Sups n b) : Jn n (flips n t a) (flips n t b) := by
  induction t generalizing a b with
  | zero => exact h
  | succ t ih => exact ih (flip_jn h ha hb) ha.flip hb.flip
theorem flips_rep {n : Int} {p : Pm} (h : pFlip n p = p) (t m : Nat) : flips n t (List.replicate m p) = List.replicate m p := by
  induction t with
  | zero => rfl
  | succ t ih => rw [flips, List.map_replicate, h, ih]
theorem run_shape (n : Int) (w : List Int) : ∃ t R, Sups n R ∧ ∀ m L, run n (m, L) w = (m + t, flips n t L ++ R) := by
  rcases nil_or_snoc w with rfl | ⟨l, x, rfl⟩
  · exact ⟨0, [], sups_nil n, fun m L => by simp [run, flips]⟩
  · have hlt : l.length < (l ++ [x]).length := by simp
    obtain ⟨t, R, hR, h⟩ := run_shape n l
    by_cases h1 : 0 < x ∧ x < n
    · refine ⟨t, R ++ [sig x], hR.append ((sups_nil n).cons ((Sup.one n).beh h1.1 h1.2)), fun m L => ?_⟩
      rw [run_append, h]
      simp [run, step, h1]
    · by_cases h2 : x < 0 ∧ -n < x
      · refine ⟨t + 1, R.map (pFlip n) ++ [beh (pHalf n) (-x)], hR.flip.append ((sups_nil n).cons ((Sup.half n).beh (by omega) (by omega))), fun m L => ?_⟩
        rw [run_append, h]
        simp [run, step, h1, h2, flips_snoc, Nat.add_assoc]
      · refine ⟨t, R, hR, fun m L => ?_⟩
        rw [run_append, h]
        simp [run, step, h1, h2]
termination_by w.length
/-- Lists with half twists taken away that are equal. -/
def Eqv (n : Int) (s s' : Nat × List Pm) : Prop :=
  ∃ r r', Jn n (List.replicate s'.1 (pHalf n) ++ s.2 ++ List.replicate r pOne) (List.replicate s.1 (pHalf n) ++ s'.2 ++ List.replicate r' pOne)
theorem sups_rep {n : Int} {p : Pm} (h : Sup n p) (m : Nat) : Sups n (List.replicate m p) := fun x hx => by rw [List.eq_of_mem_replicate hx]; exact h
theorem sups_pad {n : Int} {L : List Pm} (h : Sups n L) (m r : Nat) : Sups n (List.replicate m (pHalf n) ++ L ++ List.replicate r pOne) :=
  ((sups_rep (Sup.half n) m).append h).append (sups_rep (Sup.one n) r)
theorem Eqv.refl {n : Int} (s : Nat × List Pm) : Eqv n s s := ⟨0, 0, Jn.refl _⟩
theorem Eqv.symm {n : Int} {s s' : Nat × List Pm} (h : Eqv n s s') : Eqv n s' s := by obtain ⟨r, r', h⟩ := h; exact ⟨r', r, h.symm⟩
theorem jn_cut_halfs {n : Nat} (m : Nat) {a b : List Pm} (ha : Sups n a) (hb : Sups n b) (h : Jn n (List.replicate m (pHalf n) ++ a) (List.replicate m (pHalf n) ++ b)) : Jn n a b := by
  induction m with
  | zero => exact h
  | succ m ih => exact ih (jn_cut_half ((sups_rep (Sup.half n) m).append ha) ((sups_rep (Sup.half n) m).append hb) h)
theorem Eqv.trans {n : Nat} {s s' s2 : Nat × List Pm} (hs : Sups n s.2) (hs' : Sups n s'.2) (hs2 : Sups n s2.2) (h : Eqv n s s') (k : Eqv n s' s2) : Eqv n s s2 := by
  obtain ⟨r, r', h⟩ := h
  obtain ⟨q, q', k⟩ := k
  have h1 := ((h.left (List.replicate s2.1 (pHalf n))).right (List.replicate q pOne))
  have k1 := ((k.left (List.replicate s.1 (pHalf n))).right (List.replicate r' pOne))
  have e1 : List.replicate s2.1 (pHalf n) ++ (List.replicate s'.1 (pHalf n) ++ s.2 ++ List.replicate r pOne) ++ List.replicate q pOne = List.replicate s'.1 (pHalf n) ++ (List.replicate s2.1 (pHalf n) ++ s.2 ++ List.replicate (r + q) pOne) := by
    simp only [← List.append_assoc, List.replicate_append_replicate, Nat.add_comm]
    simp only [List.append_assoc, List.replicate_append_replicate]
  have e2 : List.replicate s2.1 (pHalf n) ++ (List.replicate s.1 (pHalf n) ++ s'.2 ++ List.replicate r' pOne) ++ List.replicate q pOne = List.replicate (s.1 + s2.1) (pHalf n) ++ s'.2 ++ List.replicate (r' + q) pOne := by
    simp only [← List.append_assoc, List.replicate_append_replicate, Nat.add_comm]
    simp only [List.append_assoc, List.replicate_append_replicate]
  have e3 : List.replicate s.1 (pHalf n) ++ (List.replicate s2.1 (pHalf n) ++ s'.2 ++ List.replicate q pOne) ++ List.replicate r' pOne = List.replicate (s.1 + s2.1) (pHalf n) ++ s'.2 ++ List.replicate (r' + q) pOne := by
    simp only [← List.append_assoc, List.replicate_append_replicate]
    simp only [List.append_assoc, List.replicate_append_replicate, Nat.add_comm]
  have e4 : List.replicate s.1 (pHalf n) ++ (List.replicate s'.1 (pHalf n) ++ s2.2 ++ List.replicate q' pOne) ++ List.replicate r' pOne = List.replicate s'.1 (pHalf n) ++ (List.replicate s.1 (pHalf n) ++ s2.2 ++ List.replicate (q' + r') pOne) := by
    simp only [← List.append_assoc, List.replicate_append_replicate]
    simp only [List.append_assoc, List.replicate_append_replicate, Nat.add_comm]
  rw [e1, e2] at h1
  rw [e3, e4] at k1
  exact ⟨r + q, q' + r', jn_cut_halfs s'.1 (sups_pad hs _ _) (sups_pad hs2 _ _) (h1.trans k1 (sups_pad hs' _ _))⟩
theorem ones_through {n : Nat} (r : Nat) (L : List Pm) (hL : Sups n L) : Jn n (List.replicate r pOne ++ L) (L ++ List.replicate r pOne) := by
  induction r with
  | zero => simp; exact Jn.refl _
  | succ r ih =>
    have h1 : Jn n (pOne :: (List.replicate r pOne ++ L)) (pOne :: (L ++ List.replicate r pOne)) := ih.left [pOne]
    have h2 : Jn n (pOne :: (L ++ List.replicate r pOne)) ((L ++ [pOne]) ++ List.replicate r pOne) := (Jn.of (ones_back L hL)).right (List.replicate r pOne)
    have := h1.trans h2 ((hL.append (sups_rep (Sup.one n) r)).cons (Sup.one n))
    simpa [List.replicate_succ] using this
theorem Eqv.run {n : Nat} {s s' : Nat × List Pm} (hs : Sups n s.2) (hs' : Sups n s'.2) (h : Eqv n s s') (w : List Int) : Eqv n (run n s w) (run n s' w) := by
  obtain ⟨t, R, hR, hw⟩ := run_shape n w
  obtain ⟨m, L⟩ := s
  obtain ⟨m', L'⟩ := s'
  obtain ⟨r, r', h⟩ := h
  rw [hw, hw]
  have h1 := flips_jn t h (sups_pad hs _ _) (sups_pad hs' _ _)
  simp only [flips_append, flips_rep (flip_half n), flips_rep (flip_one n)] at h1
  have h2 := (h1.right R).left (List.replicate t (pHalf n))
  have f1 := flips_sups t hs
  have f2 := flips_sups t hs'
  have k1 : Jn n (List.replicate (m' + t) (pHalf n) ++ (flips n t L ++ R) ++ List.replicate r pOne) (List.replicate t (pHalf n) ++ (List.replicate m' (pHalf n) ++ flips n t L ++ List.replicate r pOne ++ R)) := by
    have := ((ones_through r R hR).left (List.replicate (m' + t) (pHalf n) ++ flips n t L)).symm
    simpa [← List.append_assoc, List.replicate_append_replicate, Nat.add_comm] using this
  have k2 : Jn n (List.replicate t (pHalf n) ++ (List.replicate m (pHalf n) ++ flips n t L' ++ List.replicate r' pOne ++ R)) (List.replicate (m + t) (pHalf n) ++ (flips n t L' ++ R) ++ List.replicate r' pOne) := by
    have := ((ones_through r' R hR).left (List.replicate (m + t) (pHalf n) ++ flips n t L'))
    simpa [← List.append_assoc, List.replicate_append_replicate, Nat.add_comm] using this
  have g1 := (sups_rep (Sup.half n) t).append ((sups_pad f1 m' r).append hR)
  have g2 := (sups_rep (Sup.half n) t).append ((sups_pad f2 m r').append hR)
  exact ⟨r, r', (k1.trans h2 g1).trans k2 g2⟩
/-! ### The relations -/
theorem sig_sup {n k : Int} (h0 : 0 < k) (h1 : k < n) : Sup n (sig k) := (Sup.one n).beh h0 h1
theorem eqv_tail {n : Nat} {s : Nat × List Pm} {a b : List Pm} (h : Jn n a b) : Eqv n (s.1, s.2 ++ a) (s.1, s.2 ++ b) := by
  refine ⟨0, 0, ?_⟩
  have := (h.left (List.replicate s.1 (pHalf n) ++ s.2))
  simpa using this
theorem run_two_pos {n : Int} {s : Nat × List Pm} {i j : Int} (hi : 0 < i ∧ i < n) (hj : 0 < j ∧ j < n) : run n s [i, j] = (s.1, s.2 ++ [sig i, sig j]) := by simp [run, step, hi, hj]
theorem run_three_pos {n : Int} {s : Nat × List Pm} {i j : Int} (hi : 0 < i ∧ i < n) (hj : 0 < j ∧ j < n) : run n s [i, j, i] = (s.1, s.2 ++ [sig i, sig j, sig i]) := by simp [run, step, hi, hj]
theorem red_sig {i j : Int} (h : i ≠ j) : Red (sig i) (sig j) := by
  intro u v huv hg
  have hg' : tr i v < tr i u := hg
  show tr j u < tr j v
  rcases tr_lt (k := i) huv with h1 | ⟨h1, h2⟩
  · omega
  · rcases tr_lt (k := j) huv with h3 | ⟨h3, h4⟩
    · exact h3
    · omega
theorem rel_comm {n : Nat} {i j : Int} (hi : 0 < i) (hij : i + 2 ≤ j) (hj : j < n) : Jn n [sig i, sig j] [sig j, sig i] := by
  have m1 := merge (sig i) (sig j) (sig_sup hi (by omega)) (sig_sup (by omega) hj) (red_sig (by omega))
  have m2 := merge (sig j) (sig i) (sig_sup (by omega) hj) (sig_sup hi (by omega)) (red_sig (by omega))
  have e : comp (sig i) (sig j) = comp (sig j) (sig i) := Pm.ext_ fun x => tr_far (.inr hij) x
  rw [← e] at m2
  exact ⟨_, m1, m2⟩
theorem red_sig3 {i j : Int} (h : j = i + 1 ∨ i = j + 1) : Red (comp (sig i) (sig j)) (sig i) := by
  intro u v huv hg
  have hg' : tr i (tr j v) < tr i (tr j u) := hg
  show tr i u < tr i v
  rcases tr_lt (k := i) huv with h1 | ⟨h1, h2⟩
  · exact h1
  · exfalso
    subst h1 h2
    rcases h with rfl | rfl
    · rw [show tr (v + 1) v = v + 1 by unfold tr; rw [if_pos (by omega)], tr_no (k := v + 1) (x := v - 1) (by omega) (by omega), tr_lo, tr_no (k := v) (x := v + 1) (by omega) (by omega)] at hg'
      omega
    · rw [tr_no (k := j) (x := j + 1) (by omega) (by omega), show j + 1 - 1 = j by omega, tr_hi, tr_hi, tr_no (k := j + 1) (x := j - 1) (by omega) (by omega)] at hg'
      omega
theorem rel_three {n : Nat} {i j : Int} (h : j = i + 1 ∨ i = j + 1) (hi : 0 < i ∧ i < n) (hj : 0 < j ∧ j < n) : Mvs n [sig i, sig j, sig i] [comp (comp (sig i) (sig j)) (sig i), pOne, pOne] := by
  have si := sig_sup hi.1 hi.2
  have sj := sig_sup hj.1 hj.2
  have m1 := (merge (sig i) (sig j) si sj (red_sig (by omega))).right [sig i]
  have m2 := (one_back (sig i) si).cons (comp (sig i) (sig j))
  have m3 := (merge (comp (sig i) (sig j)) (sig i) (si.comp sj) si (red_sig3 h)).right [pOne]
  exact (m1.trans m2).trans m3
theorem rel_braid {n : Nat} {i : Int} (hi : 0 < i) (hj : i + 1 < n) : Jn n [sig i, sig (i + 1), sig i] [sig (i + 1), sig i, sig (i + 1)] := by
  have m1 := rel_three (n := n) (i := i) (j := i + 1) (.inl rfl) ⟨hi, by omega⟩ ⟨by omega, hj⟩
  have m2 := rel_three (n := n) (i := i + 1) (j := i) (.inr rfl) ⟨by omega, hj⟩ ⟨hi, by omega⟩
  have e : comp (comp (sig i) (sig (i + 1))) (sig i) = comp (comp (sig (i + 1)) (sig i)) (sig (i + 1)) := Pm.ext_ fun x => tr_three i x
  rw [← e] at m2
  exact ⟨_, m1, m2⟩
/-- A letter and its inverse: a half twist that was taken away and put back. -/
theorem rel_can {n : Nat} {s : Nat × List Pm} (hs : Sups n s.2) {a b : Pm} (ha : Sup n a) (hb : Sup n b) (h : comp a b = pHalf n) : Eqv n (s.1 + 1, s.2.map (pFlip n) ++ [a, b]) s := by
  refine ⟨0, 1, ?_⟩
  have m1 : Jn n (s.2.map (pFlip n) ++ [a, b]) (s.2.map (pFlip n) ++ [pHalf n] ++ [pOne]) := by
    have := (Jn.of (merge_half ha hb h)).left (s.2.map (pFlip n))
    simpa using this
  have m2 : Jn n (s.2.map (pFlip n) ++ [pHalf n] ++ [pOne]) (pHalf n :: s.2 ++ [pOne]) := (half_through s.2 hs).right [pOne]
  have m3 := m1.trans m2 ((hs.flip.append ((sups_nil n).cons (Sup.half n))).append ((sups_nil n).cons (Sup.one n)))
  have := m3.left (List.replicate s.1 (pHalf n))
  have e : List.replicate s.1 (pHalf n) ++ (pHalf n :: s.2 ++ [pOne]) = List.replicate (s.1 + 1) (pHalf n) ++ s.2 ++ List.replicate 1 pOne := by
    rw [← List.replicate_append_replicate]; simp
  rw [e] at this
  simpa using this
theorem eqv_can {n : Nat} {s : Nat × List Pm} (hs : Sups n s.2) (x : Int) : Eqv n (run n s [x, -x]) s := by
  by_cases h1 : 0 < x ∧ x < n
  · have e : run n s [x, -x] = (s.1 + 1, s.2.map (pFlip n) ++ [pFlip n (sig x), beh (pHalf n) x]) := by
      simp only [run, List.foldl_cons, List.foldl_nil]
      have e1 : step n s x = (s.1, s.2 ++ [sig x]) := by unfold step; rw [if_pos h1]
      rw [e1]
      unfold step
      rw [if_neg (by omega), if_pos (by omega), Int.neg_neg]
      simp
    rw [e]
    refine rel_can hs (sig_sup h1.1 h1.2).flip ((Sup.half n).beh h1.1 h1.2) (Pm.ext_ fun i => ?_)
    show tr x (hf n (hf n (tr x (hf n i)))) = hf n i
    rw [hf_hf, tr_tr]
  · by_cases h2 : x < 0 ∧ -(n : Int) < x
    · have e : run n s [x, -x] = (s.1 + 1, s.2.map (pFlip n) ++ [beh (pHalf n) (-x), sig (-x)]) := by
        simp only [run, List.foldl_cons, List.foldl_nil]
        have e1 : step n s x = (s.1 + 1, s.2.map (pFlip n) ++ [beh (pHalf n) (-x)]) := by unfold step; rw [if_neg h1, if_pos h2]
        rw [e1]
        unfold step
        rw [if_pos (by omega)]
        simp
      rw [e]
      refine rel_can hs ((Sup.half n).beh (by omega) (by omega)) (sig_sup (by omega) (by omega)) (Pm.ext_ fun i => ?_)
      show tr (-x) (tr (-x) (hf n i)) = hf n i
      rw [tr_tr]
    · have e : run n s [x, -x] = s := by
        simp only [run, List.foldl_cons, List.foldl_nil]
        have e1 : step n s x = s := by unfold step; rw [if_neg h1, if_neg h2]
        rw [e1]
        unfold step
        rw [if_neg (by omega), if_neg (by omega)]
      rw [e]
      exact Eqv.refl s
/-- Equal words have equal lists. -/
theorem eqv_gen {n : Nat} {a b : List Int} (h : Gen (BrR n) a b) : ∀ s : Nat × List Pm, Sups n s.2 → Eqv n (run n s a) (run n s b) := by
  induction h with
  | refl a => intro s _; exact Eqv.refl _
  | symm _ ih => intro s hs; exact (ih s hs).symm
  | trans _ _ i1 i2 => intro s hs; exact (i1 s hs).trans (run_sups hs _) (run_sups hs _) (run_sups hs _) (i2 s hs)
  | @cong a b c d _ _ i1 i2 =>
    intro s hs
    rw [run_append, run_append]
    exact ((i1 s hs).run (run_sups hs a) (run_sups hs b) c).trans (run_sups (run_sups hs a) c) (run_sups (run_sups hs b) c) (run_sups (run_sups hs b) d) (i2 _ (run_sups hs b))
  | can x => intro s hs; exact eqv_can hs x
  | base h =>
    intro s hs
    cases h with
    | comm i j h1 h2 h3 => rw [run_two_pos (by omega) (by omega), run_two_pos (by omega) (by omega)]; exact eqv_tail (rel_comm h1 h2 h3)
    | braid i h1 h2 => rw [run_three_pos (by omega) (by omega), run_three_pos (by omega) (by omega)]; exact eqv_tail (rel_braid h1 h2)
/-- The list of a word, and when it is that of the trivial braid. -/
def lst (n : Int) (w : List Int) : Nat × List Pm := run n (0, []) w
theorem lst_sups (n : Int) (w : List Int) : Sups n (lst n w).2 := run_sups (sups_nil n) w
theorem one_ne_half {n : Int} (h : 2 ≤ n) : pOne ≠ pHalf n := fun e => by
  have : pOne.f 0 = (pHalf n).f 0 := by rw [← e]
  have h2 : (0 : Int) = hf n 0 := this
  rw [hf_in (by omega) (by omega)] at h2
  omega
theorem irr_reps (n : Int) (m r : Nat) : Irr n (List.replicate m (pHalf n) ++ List.replicate r pOne) := by
  induction m with
  | succ m ih => rw [List.replicate_succ, List.cons_append]; exact irr_half ih
  | zero =>
    rw [List.replicate_zero, List.nil_append]
    induction r with
    | zero => intro b hb; cases hb
    | succ r ih =>
      have := irr_one ih
      rwa [show List.replicate r pOne ++ [pOne] = List.replicate (r + 1) pOne by rw [List.replicate_succ']] at this
theorem jn_cut_ones {n : Nat} (r : Nat) {a b : List Pm} (ha : Sups n a) (hb : Sups n b) (h : Jn n (a ++ List.replicate r pOne) (b ++ List.replicate r pOne)) : Jn n a b := by
  induction r with
  | zero => simpa using h
  | succ r ih =>
    refine ih (jn_cut_one (ha.append (sups_rep (Sup.one n) r)) (hb.append (sups_rep (Sup.one n) r)) ?_)
    rw [List.replicate_succ', ← List.append_assoc, ← List.append_assoc] at h
    exact h
theorem irr_ones {n : Int} {a : List Pm} (h : Irr n a) (r : Nat) : Irr n (a ++ List.replicate r pOne) := by
  induction r with
  | zero => simpa using h
  | succ r ih => rw [List.replicate_succ', ← List.append_assoc]; exact irr_one ih
/-- What a trivial word comes to: half twists, as many as were taken away, and nothing else. -/
theorem trivial_lst {n : Nat} {w : List Int} (h : Gen (BrR n) w []) {N : List Pm} (hN : Mvs n (lst n w).2 N) (hi : Irr n N) :
    ∃ r r', N ++ List.replicate r pOne = List.replicate (lst n w).1 (pHalf n) ++ List.replicate r' pOne := by
  obtain ⟨r, r', h1⟩ := eqv_gen h (0, []) (sups_nil n)
  refine ⟨r, r', ?_⟩
  have e : run n (0, []) w = lst n w := rfl
  rw [e, show run n (0, []) [] = (0, []) from rfl] at h1
  simp only [List.replicate_zero, List.nil_append, List.append_nil] at h1
  have h2 := ((Jn.of (hN.right (List.replicate r pOne))).symm).trans h1 ((lst_sups n w).append (sups_rep (Sup.one n) r))
  exact h2.irr (irr_ones hi r) (irr_reps n _ r')
end Go.Proofs.Ytcinnbkhnonijaa
