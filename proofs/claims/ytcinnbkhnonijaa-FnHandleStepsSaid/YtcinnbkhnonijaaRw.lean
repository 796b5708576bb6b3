/-
  Plain law: the words of permutations and of lists of them; a braid word is trivial exactly if its list comes to half twists, as many as were taken away. No program in sight.
-/
import Derived.Test.YtcinnbkhnonijaaGar
namespace Go.Proofs.Ytcinnbkhnonijaa
set_option maxRecDepth 10000

/-- Shortest words of a permutation. -/
inductive RW (n : Int) : Pm → List Int → Prop
  | nil : RW n pOne []
  | cons (k : Int) {p : Pm} {w : List Int} : 0 < k → k < n → Sta k p → RW n (bef k p) w → RW n p (k :: w)
def wf (n : Nat) (p : Pm) : Nat := (sumW n p.f).toNat
theorem wf_lt {n : Nat} {p : Pm} (h : Sup n p) : wf n p < wtB n ∧ (wf n p : Int) = sumW n p.f := by
  have := sumW_bd p.f n (fun x h0 h1 => by have := h.rg h0 h1; omega) n (Int.le_refl _)
  have h2 : ((n * (n * n) : Nat) : Int) = n * (n * n) := by simp
  unfold wf wtB
  omega
theorem wf_bef {n : Nat} {p : Pm} {k : Int} (h : Sup n p) (h0 : 0 < k) (h1 : k < n) (h2 : Sta k p) : wtB n - wf n (bef k p) < wtB n - wf n p := by
  have e := sumW_swap p.f k h0 n h1
  have a := wf_lt h
  have b := wf_lt (h.bef h0 h1)
  have d : sumW n (bef k p).f = sumW n fun x => p.f (tr k x) := rfl
  unfold Sta at h2
  omega
theorem rw_ex {n : Nat} (p : Pm) (hp : Sup n p) : ∃ w, RW n p w := by
  by_cases hk : ∃ k : Int, 0 < k ∧ k < n ∧ Sta k p
  · obtain ⟨k, k0, k1, sk⟩ := hk
    have hlt := wf_bef hp k0 k1 sk
    obtain ⟨w, hw⟩ := rw_ex (bef k p) (hp.bef k0 k1)
    exact ⟨k :: w, .cons k k0 k1 sk hw⟩
  · have : p = pOne := rises hp fun k k0 k1 hs => hk ⟨k, k0, k1, hs⟩
    subst this
    exact ⟨[], .nil⟩
termination_by wtB n - wf n p
theorem not_sta_bef {k : Int} {p : Pm} (h : Sta k p) : ¬ Sta k (bef k p) := by
  intro h2
  have h3 : p.f (tr k k) < p.f (tr k (k - 1)) := h2
  rw [tr_hi, tr_lo] at h3
  unfold Sta at h
  omega
theorem rw_meet {n : Nat} {p : Pm} (hp : Sup n p) {k l : Int} (k0 : 0 < k) (k1 : k < n) (sk : Sta k p) (l0 : 0 < l) (l1 : l < n) (sl : Sta l p) (hkl : k < l) :
    ∃ u v, RW n (bef k p) u ∧ RW n (bef l p) v ∧ Gen (BrR n) (k :: u) (l :: v) := by
  by_cases h : k + 2 ≤ l
  · obtain ⟨z, hz⟩ := rw_ex (bef l (bef k p)) ((hp.bef k0 k1).bef l0 l1)
    have e2 : bef l (bef k p) = bef k (bef l p) := Pm.ext_ fun x => by show p.f (tr k (tr l x)) = p.f (tr l (tr k x)); rw [tr_far (.inl h)]
    refine ⟨l :: z, k :: z, .cons l l0 l1 ((sta_far (.inl h)).2 sl) hz, .cons k k0 k1 ((sta_far (.inr h)).2 sk) (by rw [← e2]; exact hz), ?_⟩
    exact (Gen.base (BrR.comm k l k0 h l1)).right z
  · obtain rfl : l = k + 1 := by omega
    have sk' : p.f k < p.f (k - 1) := sk
    have sl' : p.f (k + 1) < p.f k := by have : p.f (k + 1) < p.f (k + 1 - 1) := sl; rwa [show k + 1 - 1 = k by omega] at this
    have t1 : tr (k + 1) k = k + 1 := by unfold tr; rw [if_pos (by omega)]
    have t2 : tr (k + 1) (k + 1) = k := by rw [tr_hi]; omega
    have t3 : tr k (k + 1) = k + 1 := tr_no (by omega) (by omega)
    have t4 : tr (k + 1) (k - 1) = k - 1 := tr_no (by omega) (by omega)
    have ee : k + 1 - 1 = k := by omega
    obtain ⟨z, hz⟩ := rw_ex (bef k (bef (k + 1) (bef k p))) (((hp.bef k0 k1).bef l0 l1).bef k0 k1)
    have e2 : bef k (bef (k + 1) (bef k p)) = bef (k + 1) (bef k (bef (k + 1) p)) := Pm.ext_ fun x => by
      show p.f (tr k (tr (k + 1) (tr k x))) = p.f (tr (k + 1) (tr k (tr (k + 1) x)))
      rw [tr_three]
    refine ⟨(k + 1) :: k :: z, k :: (k + 1) :: z, .cons _ l0 l1 ?_ (.cons _ k0 k1 ?_ hz), .cons _ k0 k1 ?_ (.cons _ l0 l1 ?_ (by rw [← e2]; exact hz)), ?_⟩
    · show p.f (tr k (k + 1)) < p.f (tr k (k + 1 - 1))
      rw [ee, t3, tr_hi]; omega
    · show p.f (tr k (tr (k + 1) k)) < p.f (tr k (tr (k + 1) (k - 1)))
      rw [t1, t3, t4, tr_lo]; exact sl'
    · show p.f (tr (k + 1) k) < p.f (tr (k + 1) (k - 1))
      rw [t1, t4]; omega
    · show p.f (tr (k + 1) (tr k (k + 1))) < p.f (tr (k + 1) (tr k (k + 1 - 1)))
      rw [ee, t3, t2, tr_hi, t4]; exact sk'
    · exact (Gen.base (BrR.braid k k0 l1)).right z
/-- Two shortest words of a permutation are equal braids. -/
theorem rw_uniq {n : Nat} (p : Pm) (hp : Sup n p) {w w' : List Int} (h : RW n p w) (h' : RW n p w') : Gen (BrR n) w w' := by
  cases h with
  | nil =>
    cases h' with
    | nil => exact .refl _
    | cons k k0 k1 sk _ => have : k < k - 1 := sk; omega
  | @cons k _ w1 k0 k1 sk h1 =>
    cases h' with
    | nil => have : k < k - 1 := sk; omega
    | @cons l _ w2 l0 l1 sl h2 =>
      have m1 := wf_bef hp k0 k1 sk
      have m2 := wf_bef hp l0 l1 sl
      by_cases e : k = l
      · subst e
        exact (rw_uniq (bef k p) (hp.bef k0 k1) h1 h2).left [k]
      · have key : ∃ u v, RW n (bef k p) u ∧ RW n (bef l p) v ∧ Gen (BrR n) (k :: u) (l :: v) := by
          by_cases hkl : k < l
          · exact rw_meet hp k0 k1 sk l0 l1 sl hkl
          · obtain ⟨u, v, a, b, c⟩ := rw_meet hp l0 l1 sl k0 k1 sk (by omega)
            exact ⟨v, u, b, a, c.symm⟩
        obtain ⟨u, v, hu, hv, hg⟩ := key
        have g1 := (rw_uniq (bef k p) (hp.bef k0 k1) h1 hu).left [k]
        have g2 := (rw_uniq (bef l p) (hp.bef l0 l1) h2 hv).left [l]
        exact (g1.trans hg).trans g2.symm
termination_by wtB n - wf n p
theorem rw_beh {n k : Int} {p : Pm} {w : List Int} (h : RW n p w) (k0 : 0 < k) (k1 : k < n) (hf : ¬ Fi k p) : RW n (beh p k) (w ++ [k]) := by
  induction h with
  | nil =>
    refine .cons k k0 k1 ?_ ?_
    · show tr k k < tr k (k - 1)
      rw [tr_hi, tr_lo]; omega
    · have : bef k (beh pOne k) = pOne := Pm.ext_ fun x => tr_tr k x
      rw [this]; exact .nil
  | cons j j0 j1 sj _ ih => exact .cons j j0 j1 (sta_beh sj hf) (ih (fi_bef sj hf))
theorem rw_pos {n : Int} {p : Pm} {w : List Int} (h : RW n p w) : ∀ x ∈ w, 0 < x ∧ x < n := by
  induction h with
  | nil => intro x hx; cases hx
  | cons k k0 k1 _ _ ih =>
    intro x hx
    rcases List.mem_cons.1 hx with rfl | hx
    · exact ⟨k0, k1⟩
    · exact ih x hx
theorem rw_flip {n : Int} {p : Pm} {w : List Int} (h : RW n p w) (hp : Sup n p) : RW n (pFlip n p) (w.map fun k => n - k) := by
  induction h with
  | nil => rw [flip_one]; exact .nil
  | @cons k q w k0 k1 sk _ ih =>
    have ih := ih (hp.bef k0 k1)
    rw [flip_bef k0 k1] at ih
    refine .cons (n - k) (by omega) (by omega) ?_ ih
    show hf n (q.f (hf n (n - k))) < hf n (q.f (hf n (n - k - 1)))
    rw [hf_in (n := n) (x := n - k) (by omega) (by omega), hf_in (n := n) (x := n - k - 1) (by omega) (by omega), show n - 1 - (n - k) = k - 1 by omega, show n - 1 - (n - k - 1) = k by omega]
    have a := hp.rg (x := k - 1) (by omega) (by omega)
    have b := hp.rg (x := k) (by omega) (by omega)
    unfold Sta at sk
    rw [hf_in a.1 a.2, hf_in b.1 b.2]; omega
/-- Words of a list. -/
inductive SW (n : Int) : List Pm → List Int → Prop
  | nil : SW n [] []
  | cons {p : Pm} {L : List Pm} {a b : List Int} : RW n p a → SW n L b → SW n (p :: L) (a ++ b)
theorem sw_append {n : Int} {L M : List Pm} {a b : List Int} (h : SW n L a) (k : SW n M b) : SW n (L ++ M) (a ++ b) := by
  induction h with
  | nil => exact k
  | cons h _ ih => rw [List.append_assoc]; exact .cons h ih
theorem sw_pos {n : Int} {L : List Pm} {w : List Int} (h : SW n L w) : ∀ x ∈ w, 0 < x ∧ x < n := by
  induction h with
  | nil => intro x hx; cases hx
  | cons h _ ih => intro x hx; exact (List.mem_append.1 hx).elim (rw_pos h x) (ih x)
theorem sw_flip {n : Int} {L : List Pm} {w : List Int} (h : SW n L w) (hs : Sups n L) : SW n (L.map (pFlip n)) (w.map fun k => n - k) := by
  induction h with
  | nil => exact .nil
  | @cons p L a b h _ ih =>
    rw [List.map_append]
    exact .cons (rw_flip h (hs p (by simp))) (ih fun x hx => hs x (by simp [hx]))
theorem sw_mv {n : Nat} {L L' : List Pm} (h : Mv n L L') (hs : Sups n L) {a : List Int} (ha : SW n L a) : ∃ a', SW n L' a' ∧ Gen (BrR n) a a' := by
  induction h generalizing a with
  | here p q r k k0 k1 hk sk =>
    cases ha with
    | @cons _ _ a1 _ h1 h2 =>
      cases h2 with
      | @cons _ _ b1 c h3 h4 =>
        obtain ⟨z, hz⟩ := rw_ex (bef k q) ((hs q (by simp)).bef k0 k1)
        have g := rw_uniq q (hs q (by simp)) h3 (.cons k k0 k1 sk hz)
        refine ⟨(a1 ++ [k]) ++ (z ++ c), .cons (rw_beh h1 k0 k1 hk) (.cons hz h4), ?_⟩
        have := (g.right c).left a1
        simpa using this
  | @cons p L1 L2 h ih =>
    cases ha with
    | @cons _ _ a1 b1 h1 h2 =>
      obtain ⟨b', hb, hg⟩ := ih (fun x hx => hs x (by simp [hx])) h2
      exact ⟨a1 ++ b', .cons h1 hb, hg.left a1⟩
theorem sw_mvs {n : Nat} {L L' : List Pm} (h : Mvs n L L') (hs : Sups n L) {a : List Int} (ha : SW n L a) : ∃ a', SW n L' a' ∧ Gen (BrR n) a a' := by
  induction h generalizing a with
  | refl => exact ⟨a, ha, .refl _⟩
  | head h _ ih =>
    obtain ⟨b, hb, hg⟩ := sw_mv h hs ha
    obtain ⟨c, hc, hg2⟩ := ih (h.sups hs) hb
    exact ⟨c, hc, hg.trans hg2⟩
/-- The half twist and a letter. -/
theorem half_letter {n : Nat} {d : List Int} (hd : RW n (pHalf n) d) {k : Int} (k0 : 0 < k) (k1 : k < n) :
    ∃ z, RW n (beh (pHalf n) k) z ∧ Gen (BrR n) d (z ++ [k]) ∧ Gen (BrR n) (((n : Int) - k) :: d) (d ++ [k]) := by
  obtain ⟨z, hz⟩ := rw_ex (beh (pHalf n) k) ((Sup.half n).beh k0 k1)
  have hs : Sta ((n : Int) - k) (pHalf n) := by
    show hf n (n - k) < hf n (n - k - 1)
    rw [hf_in (by omega) (by omega), hf_in (by omega) (by omega)]; omega
  have e : bef ((n : Int) - k) (pHalf n) = beh (pHalf n) k := Pm.ext_ fun x => by
    show hf n (tr (n - k) x) = tr k (hf n x)
    rw [hf_tr (by omega) (by omega), show (n : Int) - (n - k) = k by omega]
  have h1 : RW n (pHalf n) (((n : Int) - k) :: z) := .cons _ (by omega) (by omega) hs (by rw [e]; exact hz)
  have h2 : RW n (pHalf n) (z ++ [k]) := by
    have := rw_beh hz k0 k1 (by
      show ¬ hf n (tr k k) < hf n (tr k (k - 1))
      rw [tr_hi, tr_lo, hf_in (by omega) (by omega), hf_in (by omega) (by omega)]; omega)
    rwa [show beh (beh (pHalf n) k) k = pHalf n from Pm.ext_ fun x => tr_tr k _] at this
  have g1 := rw_uniq _ (Sup.half n) hd h1
  have g2 := rw_uniq _ (Sup.half n) hd h2
  refine ⟨z, hz, g2, ?_⟩
  have : Gen (BrR n) (((n : Int) - k) :: d) (((n : Int) - k) :: (z ++ [k])) := g2.left [(n : Int) - k]
  exact this.trans (g1.symm.right [k])
theorem half_word {n : Nat} {d : List Int} (hd : RW n (pHalf n) d) (a : List Int) (ha : ∀ x ∈ a, 0 < x ∧ x < (n : Int)) : Gen (BrR n) (a.map (fun k => (n : Int) - k) ++ d) (d ++ a) := by
  induction a with
  | nil => simp; exact .refl _
  | cons k a ih =>
    have hk := ha k (by simp)
    obtain ⟨z, _, _, h3⟩ := half_letter hd hk.1 hk.2
    have h1 := (ih fun x hx => ha x (by simp [hx])).left [(n : Int) - k]
    have h2 := h3.right a
    have := h1.trans (by simpa using h2)
    simpa using this
def dl (d : List Int) (m : Nat) : List Int := (List.replicate m d).flatten
theorem dl_succ (d : List Int) (m : Nat) : dl d (m + 1) = d ++ dl d m := by simp [dl, List.replicate_succ]
/-- A word is its list's word behind half twists that are taken away. -/
theorem word_lst {n : Nat} {d : List Int} (hd : RW n (pHalf n) d) (w : List Int) (hw : In n w) : ∃ a, SW n (lst n w).2 a ∧ Gen (BrR n) (dl d (lst n w).1 ++ w) a := by
  rcases nil_or_snoc w with rfl | ⟨l, x, rfl⟩
  · exact ⟨[], .nil, .refl _⟩
  · have hlt : l.length < (l ++ [x]).length := by simp
    obtain ⟨a, ha, hg⟩ := word_lst hd l fun y hy => hw y (by simp [hy])
    have hx := hw x (by simp)
    have hs := lst_sups n l
    have e : lst n (l ++ [x]) = step n (lst n l) x := by unfold lst; rw [run_append]; rfl
    by_cases h0 : 0 < x
    · have e2 : step n (lst n l) x = ((lst n l).1, (lst n l).2 ++ [sig x]) := by unfold step; rw [if_pos (by omega)]
      rw [e, e2]
      refine ⟨a ++ [x], ?_, ?_⟩
      · have h1 : RW n (sig x) ([] ++ [x]) := rw_beh .nil h0 (by omega) (by intro h; have : x < x - 1 := h; omega)
        have h2 : SW n [sig x] ([x] ++ []) := .cons h1 .nil
        exact sw_append ha h2
      · have := hg.right [x]
        simpa using this
    · have e2 : step n (lst n l) x = ((lst n l).1 + 1, (lst n l).2.map (pFlip n) ++ [beh (pHalf n) (-x)]) := by unfold step; rw [if_neg (by omega), if_pos (by omega)]
      rw [e, e2]
      obtain ⟨z, hz, g1, -⟩ := half_letter hd (k := -x) (by omega) (by omega)
      have h2 : SW n [beh (pHalf n) (-x)] (z ++ []) := .cons hz .nil
      rw [List.append_nil] at h2
      refine ⟨a.map (fun k => (n : Int) - k) ++ z, sw_append (sw_flip ha hs) h2, ?_⟩
      -- d dl w x  ~  d a x  ~  a' d x  ~  a' z (-x) x
      have s1 : Gen (BrR n) (dl d ((lst n l).1 + 1) ++ (l ++ [x])) (d ++ a ++ [x]) := by
        rw [dl_succ]
        have := (hg.left d).right [x]
        simpa using this
      have s2 : Gen (BrR n) (d ++ a ++ [x]) (a.map (fun k => (n : Int) - k) ++ d ++ [x]) := (half_word hd a (sw_pos ha)).symm.right [x]
      have s3 : Gen (BrR n) (a.map (fun k => (n : Int) - k) ++ d ++ [x]) (a.map (fun k => (n : Int) - k) ++ (z ++ [-x]) ++ [x]) := (g1.left _).right [x]
      have s4 : Gen (BrR n) (a.map (fun k => (n : Int) - k) ++ (z ++ [-x]) ++ [x]) (a.map (fun k => (n : Int) - k) ++ z) := by
        have h5 : Gen (BrR n) [-x, x] [] := by
          have := Gen.can (B := BrR n) (-x)
          rwa [Int.neg_neg] at this
        have := h5.left (a.map (fun k => (n : Int) - k) ++ z)
        simpa using this
      exact ((s1.trans s2).trans s3).trans s4
termination_by w.length
open Classical in
/-- How many are not the identity. -/
noncomputable def cntN : List Pm → Nat
  | [] => 0
  | p :: N => (if p = pOne then 0 else 1) + cntN N
theorem cntN_append (a b : List Pm) : cntN (a ++ b) = cntN a + cntN b := by
  induction a with
  | nil => simp [cntN]
  | cons p a ih => simp only [List.cons_append, cntN, ih, Nat.add_assoc]
theorem cntN_ones (r : Nat) : cntN (List.replicate r pOne) = 0 := by
  induction r with
  | zero => rfl
  | succ r ih => rw [List.replicate_succ, cntN, ih, if_pos rfl]
theorem cntN_halfs {n : Int} (h : 2 ≤ n) (m : Nat) : cntN (List.replicate m (pHalf n)) = m := by
  induction m with
  | zero => rfl
  | succ m ih => rw [List.replicate_succ, cntN, ih, if_neg (Ne.symm (one_ne_half h)), Nat.add_comm]
theorem sw_reps {n : Nat} {d : List Int} (hd : RW n (pHalf n) d) (N : List Pm) (hN : ∀ p ∈ N, p = pOne ∨ p = pHalf n) {a : List Int} (ha : SW n N a) : Gen (BrR n) a (dl d (cntN N)) := by
  induction N generalizing a with
  | nil => cases ha; exact .refl _
  | cons p N ih =>
    cases ha with
    | @cons _ _ a1 b1 h1 h2 =>
      have ih := ih (fun q hq => hN q (by simp [hq])) h2
      rw [cntN]
      by_cases e : p = pOne
      · subst e
        rw [if_pos rfl, Nat.zero_add]
        exact ((rw_uniq _ (Sup.one n) h1 .nil).right b1).trans ih
      · rw [if_neg e, Nat.add_comm, dl_succ]
        have e2 : p = pHalf n := (hN p (by simp)).resolve_left e
        subst e2
        exact (rw_uniq _ (Sup.half n) h1 hd).cong ih
/-- A word is trivial exactly if its list comes to half twists, as many as were taken away. -/
theorem trivial_iff {n : Nat} {w : List Int} (hw : In n w) {N : List Pm} (hN : Mvs n (lst n w).2 N) (hi : Irr n N) :
    Gen (BrR n) w [] ↔ (∀ p ∈ N, p = pOne ∨ p = pHalf n) ∧ cntN N = (lst n w).1 := by
  constructor
  · intro h
    by_cases hn : 2 ≤ (n : Int)
    · obtain ⟨r, r', e⟩ := trivial_lst h hN hi
      refine ⟨fun p hp => ?_, ?_⟩
      · have : p ∈ N ++ List.replicate r pOne := by simp [hp]
        rw [e] at this
        rcases List.mem_append.1 this with h | h
        · exact .inr (List.eq_of_mem_replicate h)
        · exact .inl (List.eq_of_mem_replicate h)
      · have := congrArg cntN e
        rw [cntN_append, cntN_append, cntN_ones, cntN_ones, cntN_halfs hn] at this
        simpa using this
    · have : w = [] := by
        cases w with
        | nil => rfl
        | cons x w => have := hw x (by simp); omega
      subst this
      have : N = [] := by cases hN with | refl => rfl | head h _ => cases h
      subst this
      exact ⟨by simp, rfl⟩
  · rintro ⟨h1, h2⟩
    obtain ⟨d, hd⟩ := rw_ex (pHalf n) (Sup.half n)
    obtain ⟨a, ha, hg⟩ := word_lst hd w hw
    obtain ⟨b, hb, hg2⟩ := sw_mvs hN (lst_sups n w) ha
    have h3 := (hg.trans hg2).trans (sw_reps hd N h1 hb)
    rw [h2] at h3
    have h4 : (GQ.mk (dl d (lst n w).1) * GQ.mk w : BG n) = GQ.mk (dl d (lst n w).1) * 1 := by
      rw [GQ.mul_one]; exact GQ.eq.2 h3
    exact GQ.eq.1 (GQ.left_cancel h4)
end Go.Proofs.Ytcinnbkhnonijaa
