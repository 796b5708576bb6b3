/-
  States that grow: a thing among things may take new blocks (Hs.atN, Hs.merge); rows put to the end of and into slices of slices and of structures, blocks in any order.
-/
import Derived.Test.YtbefioljddhhpaaGreatGmm
namespace Go.Proofs.YtbefioljddhhpaaGreat
set_option maxRecDepth 10000
open Go.RowKit

theorem OwS.shape {w : World} {S : Nat → Prop} {v : Value} {xss : List (List Int)} (h : OwS w S v xss) {k : Nat} (hk : k < xss.length) :
    ∃ g cap u, v = .slice (some ⟨g, 0, none⟩) xss.length cap ∧ S g ∧ w.cell? ⟨g, k, none⟩ = some u ∧ w.frozen? ⟨g, k, none⟩ = false := by
  obtain ⟨vs, tag, h1, h2, h3, h4⟩ := h
  have h1' := h1
  rcases h1.2 with ⟨rfl, h0⟩ | ⟨g, cap, cur, rfl, hlo, hh, hn, hcap, hsz, htake⟩
  · omega
  · obtain ⟨u, hu⟩ : ∃ u, vs[k]? = some u := ⟨vs[k], List.getElem?_eq_getElem (by omega)⟩
    exact ⟨g, cap, u, rfl, (h2 g rfl).1, by rw [h1'.cellAt k (by omega), hu], h1'.frozenAt k⟩
/-- A row inside is replaced: by what has grown out of it, or by another. -/
theorem OwS.swap {w : World} {S : Nat → Prop} {v : Value} {xss : List (List Int)} (h : OwS w S v xss) (k : Nat) (hk : k < xss.length) (hS : ∀ b, S b → b < w.heap.size) :
    ∃ g cap u, ∃ S2 : Nat → Prop, v = .slice (some ⟨g, 0, none⟩) xss.length cap ∧ w.cell? ⟨g, k, none⟩ = some u ∧ w.frozen? ⟨g, k, none⟩ = false ∧ (rw_ u (gl xss k)).p w S2 ∧ (∀ b, S2 b → S b) ∧ ¬ S2 g ∧ S g ∧
      ∀ (u' : Value) (ys : List Int) (w' : World) (S3 : Nat → Prop), (rw_ u' ys).p w' S3 → (∀ b, S3 b → S b → S2 b) → ChgS S2 w w' → OwS (w'.setCell ⟨g, k, none⟩ u') (fun b => S b ∨ S3 b) v (xss.set k ys) := by
  classical
  obtain ⟨vs, tag, h1, h2, h3, h4⟩ := h
  have h1' := h1
  rcases h1.2 with ⟨rfl, h0⟩ | ⟨g, cap, cur, rfl, hlo, hh, hn, hcap, hsz, htake⟩
  · omega
  · obtain ⟨u, hu⟩ : ∃ u, vs[k]? = some u := ⟨vs[k], List.getElem?_eq_getElem (by omega)⟩
    have hg := h2 g rfl
    refine ⟨g, cap, u, fun b => S b ∧ tag b = k + 1, rfl, by rw [h1'.cellAt k (by omega), hu], h1'.frozenAt k, h4 k u hu, fun b hb => hb.1, fun hb => by have := hb.2; have := hg.2; omega, hg.1, fun u' ys w' S3 hr hS3 hc => ?_⟩
    have h1w : w'.ownsRow 0 25 1 (.slice (some ⟨g, 0, none⟩) xss.length cap) xss.length vs :=
      ownsRow_keep h1' fun g' hg' => by simp [Value.ownBlock] at hg'; subst hg'; exact hc.block g (hS g hg.1) fun q => by have := q.2; have := hg.2; omega
    have hs := h1w.stored k u'
    have hgn : ¬ S3 g := fun q => by have := (hS3 g q hg.1).2; have := hg.2; omega
    refine ⟨vs.set k u', fun b => if S3 b then k + 1 else if tag b = k + 1 then 0 else tag b, by rw [List.length_set]; exact hs.1, fun g' hg' => ?_, by simp [h3], fun j y hy => ?_⟩
    · simp [Value.ownBlock] at hg'
      subst hg'
      refine ⟨.inl hg.1, ?_⟩
      simp only
      rw [if_neg hgn, if_neg (by have := hg.2; omega)]
      exact hg.2
    · by_cases hjk : j = k
      · subst hjk
        rw [List.getElem?_set_self (by omega)] at hy
        injection hy with hy
        subst hy
        rw [show gl (xss.set j ys) j = ys by rw [gl_eq (by rw [List.length_set]; exact hk)]; simp]
        refine ⟨ownsRow_keep hr.1 fun g' hg' => Below.heap_setCell _ _ _ _ (fun e => hgn (by simp only at e; rw [← e]; exact hr.2 g' hg')), fun g' hg' => ?_⟩
        refine ⟨.inr (hr.2 g' hg'), ?_⟩
        simp only
        rw [if_pos (hr.2 g' hg')]
      · have hjl : j < vs.length := by have := (List.getElem?_eq_some_iff.1 hy).1; simpa using this
        rw [List.getElem?_set_ne (by omega)] at hy
        rw [show gl (xss.set k ys) j = gl xss j by rw [gl_eq (by rw [List.length_set]; omega), gl_eq (by omega), List.getElem_set_ne (by omega)]]
        have h5 := h4 j y hy
        refine ⟨ownsRow_keep h5.1 fun g' hg' => ?_, fun g' hg' => ?_⟩
        · have h6 := h5.2 g' hg'
          rw [Below.heap_setCell _ _ _ _ (fun e => by simp only at e; have := h6.2; rw [e] at this; have := hg.2; omega)]
          exact hc.block g' (hS g' h6.1) fun q => by have := q.2; have := h6.2; omega
        · have h6 := h5.2 g' hg'
          refine ⟨.inl h6.1, ?_⟩
          simp only
          rw [if_neg (fun q => by have := (hS3 g' q h6.1).2; have := h6.2; omega), if_neg (by have := h6.2; omega)]
          exact h6.2
/-- A row is put to the end: the outer row has been appended to. -/
theorem OwS.pushS {w w' : World} {S S2 : Nat → Prop} {v v' u : Value} {xss : List (List Int)} {xs : List Int} {vs : List Value} {tag : Nat → Nat} (h2 : ∀ g, v.ownBlock = some g → S g ∧ tag g = 0) (h3 : vs.length = xss.length) (h4 : ∀ k u, vs[k]? = some u → (rw_ u (gl xss k)).p w (fun b => S b ∧ tag b = k + 1)) (hu : (rw_ u xs).p w S2) (hS : ∀ k, S k → k < w.heap.size) (hS2 : ∀ k, S2 k → k < w.heap.size) (hd : ∀ k, S2 k → ¬ S k)
    (hg : w.grownBy w' v.ownBlock) (hl : v'.ownBlock = v.ownBlock ∨ ∀ g, v'.ownBlock = some g → w.heap.size ≤ g)
    (hv' : w'.ownsRow 0 25 1 v' (xss.length + 1) (vs ++ [u])) : OwS w' (fun k => S k ∨ S2 k ∨ (w.heap.size ≤ k ∧ k < w'.heap.size)) v' (xss ++ [xs]) := by
  classical
  refine ⟨vs ++ [u], fun b => if w.heap.size ≤ b then 0 else if S2 b then xss.length + 1 else tag b, by rw [List.length_append]; exact hv', fun g hgv => ?_, by simp [h3], fun k x hx => ?_⟩
  · have hlt := (hv'.lt g hgv).2
    rcases hl with e | e
    · rw [e] at hgv
      obtain ⟨a, c⟩ := h2 g hgv
      refine ⟨.inl a, ?_⟩
      simp only
      rw [if_neg (by have := hS g a; omega), if_neg (fun q => hd g q a)]
      exact c
    · have := e g hgv
      exact ⟨.inr (.inr ⟨this, hlt⟩), by simp only; rw [if_pos this]⟩
  · by_cases hk : k < vs.length
    · rw [List.getElem?_append_left hk] at hx
      have hgl : gl (xss ++ [xs]) k = gl xss k := by
        rw [gl_eq (by simp; omega), gl_eq (by omega), List.getElem_append_left (by omega)]
      rw [hgl]
      have h5 := h4 k x hx
      refine ⟨ownsRow_keep h5.1 fun g hgx => hg.block g (hS g (h5.2 g hgx).1) fun e => ?_, fun g hgx => ?_⟩
      · have h6 := (h5.2 g hgx).2
        have h7 := (h2 g e.symm).2
        omega
      · obtain ⟨a, c⟩ := h5.2 g hgx
        refine ⟨.inl a, ?_⟩
        simp only
        rw [if_neg (by have := hS g a; omega), if_neg (fun q => hd g q a)]
        exact c
    · have hkl : k < (vs ++ [u]).length := (List.getElem?_eq_some_iff.1 hx).1
      simp at hkl
      obtain rfl : k = vs.length := by omega
      rw [List.getElem?_append_right (Nat.le_refl _)] at hx
      simp at hx
      subst hx
      have hgl : gl (xss ++ [xs]) vs.length = xs := by rw [h3, gl_eq (by simp)]; simp
      rw [hgl]
      refine ⟨ownsRow_keep hu.1 fun g hgx => hg.block g (hS2 g (hu.2 g hgx)) fun e => ?_, fun g hgx => ?_⟩
      · exact hd g (hu.2 g hgx) (h2 g e.symm).1
      · have h6 := hu.2 g hgx
        refine ⟨.inr (.inl h6), ?_⟩
        simp only
        rw [if_neg (by have := hS2 g h6; omega), if_pos h6, h3]
end Go.Proofs.YtbefioljddhhpaaGreat
