/-
  States that grow: a thing among things may take new blocks (Hs.atN, Hs.merge); rows put to the end of and into slices of slices and of structures, blocks in any order.
-/
import Derived.Test.YtgmppfhokfifgaaGreatDoorGmm
namespace Go.Proofs.YtgmppfhokfifgaaGreatDoor
set_option maxRecDepth 10000
open Go.RowKit

/-- A thing takes the last one's blocks, and new ones. -/
theorem Hs.merge {w : World} {lo : Nat} (L1 : List Itm) (t : Itm) (L2 : List Itm) (u : Itm) (h : Hs w lo (L1 ++ t :: (L2 ++ [u]))) :
    ∃ S S2 : Nat → Prop, t.p w S ∧ u.p w S2 ∧ (∀ k, S k → lo ≤ k ∧ k < w.heap.size) ∧ (∀ k, S2 k → lo ≤ k ∧ k < w.heap.size) ∧ (∀ k, S2 k → ¬ S k) ∧
      ∀ (t' : Itm) (w' : World), t'.p w' (fun k => S k ∨ S2 k ∨ (w.heap.size ≤ k ∧ k < w'.heap.size)) → ChgS (fun k => S k ∨ S2 k) w w' → Hs w' lo (L1 ++ t' :: L2) := by
  obtain ⟨h0, own, h1⟩ := h
  have e : (L1 ++ t :: (L2 ++ [u]))[L1.length]? = some t := by simp
  have e2 : (L1 ++ t :: (L2 ++ [u]))[L1.length + 1 + L2.length]? = some u := by
    rw [List.getElem?_append_right (by omega), show L1.length + 1 + L2.length - L1.length = L2.length + 1 by omega]
    simp
  obtain ⟨a, c⟩ := h1 _ _ e
  obtain ⟨a2, c2⟩ := h1 _ _ e2
  refine ⟨_, _, a, a2, c, c2, fun k hk hk2 => by omega, fun t' w' ht hc => ⟨Nat.le_trans h0 hc.size, fun b => if w.heap.size ≤ b then (if b < w'.heap.size then L1.length else L1.length + L2.length + 2) else if own b = L1.length + 1 + L2.length then L1.length else own b, fun k x eu => ?_⟩⟩
  by_cases hk : k = L1.length
  · subst hk
    simp at eu
    subst eu
    have hi : ∀ b, (own b = L1.length ∨ own b = L1.length + 1 + L2.length ∨ (w.heap.size ≤ b ∧ b < w'.heap.size)) ↔ (if w.heap.size ≤ b then (if b < w'.heap.size then L1.length else L1.length + L2.length + 2) else if own b = L1.length + 1 + L2.length then L1.length else own b) = L1.length := by
      intro b
      constructor
      · rintro (hb | hb | hb)
        · rw [if_neg (by have := c b hb; omega), if_neg (by omega)]; exact hb
        · rw [if_neg (by have := c2 b hb; omega), if_pos hb]
        · rw [if_pos hb.1, if_pos hb.2]
      · intro hb
        split at hb
        · split at hb
          · right; right; omega
          · omega
        · split at hb
          · right; left; assumption
          · exact .inl hb
    refine ⟨Itm.iff ht hi, fun b hb => ?_⟩
    rcases (hi b).2 hb with q | q | q
    · exact ⟨(c b q).1, Nat.lt_of_lt_of_le (c b q).2 hc.size⟩
    · exact ⟨(c2 b q).1, Nat.lt_of_lt_of_le (c2 b q).2 hc.size⟩
    · exact ⟨by omega, q.2⟩
  · have hlen : k < (L1 ++ t' :: L2).length := (List.getElem?_eq_some_iff.1 eu).1
    simp at hlen
    have eu' : (L1 ++ t :: (L2 ++ [u]))[k]? = some x := by
      rw [← eu]
      by_cases hk2 : k < L1.length
      · rw [List.getElem?_append_left hk2, List.getElem?_append_left hk2]
      · rw [List.getElem?_append_right (by omega), List.getElem?_append_right (by omega)]
        obtain ⟨j, hj⟩ : ∃ j, k - L1.length = j + 1 := ⟨k - L1.length - 1, by omega⟩
        rw [hj]
        simp only [List.getElem?_cons_succ]
        rw [List.getElem?_append_left (by omega)]
    obtain ⟨a', c'⟩ := h1 k x eu'
    have hi : ∀ b, own b = k ↔ (if w.heap.size ≤ b then (if b < w'.heap.size then L1.length else L1.length + L2.length + 2) else if own b = L1.length + 1 + L2.length then L1.length else own b) = k := by
      intro b
      constructor
      · intro hb
        rw [if_neg (by have := c' b hb; omega), if_neg (by omega)]; exact hb
      · intro hb
        split at hb
        · split at hb <;> omega
        · split at hb
          · omega
          · exact hb
    refine ⟨Itm.iff (x.keep a' fun j hj => hc.block j (c' j hj).2 fun hj2 => by
      have hj' : own j = k := hj
      have hj3 : own j = L1.length ∨ own j = L1.length + 1 + L2.length := hj2
      omega) hi, fun b hb => ?_⟩
    have := c' b ((hi b).2 hb)
    exact ⟨this.1, Nat.lt_of_lt_of_le this.2 hc.size⟩
theorem OwS.shape {w : World} {S : Nat → Prop} {v : Value} {xss : List (List Int)} (h : OwS w S v xss) {k : Nat} (hk : k < xss.length) :
    ∃ g cap u, v = .slice (some ⟨g, 0, none⟩) xss.length cap ∧ S g ∧ w.cell? ⟨g, k, none⟩ = some u ∧ w.frozen? ⟨g, k, none⟩ = false := by
  obtain ⟨vs, tag, h1, h2, h3, h4⟩ := h
  have h1' := h1
  rcases h1.2 with ⟨rfl, h0⟩ | ⟨g, cap, cur, rfl, hlo, hh, hn, hcap, hsz, htake⟩
  · omega
  · obtain ⟨u, hu⟩ : ∃ u, vs[k]? = some u := ⟨vs[k], List.getElem?_eq_getElem (by omega)⟩
    exact ⟨g, cap, u, rfl, (h2 g rfl).1, by rw [h1'.cellAt k (by omega), hu], h1'.frozenAt k⟩
/-- A row inside is replaced: by what has grown out of it, or by another. -/
theorem OwS.swap {w : World} {S : Nat → Prop} {v : Value} {xss : List (List Int)} (h : OwS w S v xss) (k : Nat) (hk : k < xss.length) (hS : ∀ b, S b → b < w.heap.size) :
    ∃ g cap u, ∃ S2 : Nat → Prop, v = .slice (some ⟨g, 0, none⟩) xss.length cap ∧ w.cell? ⟨g, k, none⟩ = some u ∧ w.frozen? ⟨g, k, none⟩ = false ∧ (rw_ u (gl xss k)).p w S2 ∧ (∀ b, S2 b → S b) ∧ ¬ S2 g ∧ S g ∧
      ∀ (u' : Value) (ys : List Int) (w' : World) (S3 : Nat → Prop), (rw_ u' ys).p w' S3 → (∀ b, S3 b → S b → S2 b) → ChgS S2 w w' → OwS (w'.setCell ⟨g, k, none⟩ u') (fun b => S b ∨ S3 b) v (xss.set k ys) := by
  classical
  obtain ⟨vs, tag, h1, h2, h3, h4⟩ := h
  have h1' := h1
  rcases h1.2 with ⟨rfl, h0⟩ | ⟨g, cap, cur, rfl, hlo, hh, hn, hcap, hsz, htake⟩
  · omega
  · obtain ⟨u, hu⟩ : ∃ u, vs[k]? = some u := ⟨vs[k], List.getElem?_eq_getElem (by omega)⟩
    have hg := h2 g rfl
    refine ⟨g, cap, u, fun b => S b ∧ tag b = k + 1, rfl, by rw [h1'.cellAt k (by omega), hu], h1'.frozenAt k, h4 k u hu, fun b hb => hb.1, fun hb => by have := hb.2; have := hg.2; omega, hg.1, fun u' ys w' S3 hr hS3 hc => ?_⟩
    have h1w : w'.ownsRow 0 33 1 (.slice (some ⟨g, 0, none⟩) xss.length cap) xss.length vs :=
      ownsRow_keep h1' fun g' hg' => by simp [Value.ownBlock] at hg'; subst hg'; exact hc.block g (hS g hg.1) fun q => by have := q.2; have := hg.2; omega
    have hs := h1w.stored k u'
    have hgn : ¬ S3 g := fun q => by have := (hS3 g q hg.1).2; have := hg.2; omega
    refine ⟨vs.set k u', fun b => if S3 b then k + 1 else if tag b = k + 1 then 0 else tag b, by rw [List.length_set]; exact hs.1, fun g' hg' => ?_, by simp [h3], fun j y hy => ?_⟩
    · simp [Value.ownBlock] at hg'
      subst hg'
      refine ⟨.inl hg.1, ?_⟩
      simp only
      rw [if_neg hgn, if_neg (by have := hg.2; omega)]
      exact hg.2
    · by_cases hjk : j = k
      · subst hjk
        rw [List.getElem?_set_self (by omega)] at hy
        injection hy with hy
        subst hy
        rw [show gl (xss.set j ys) j = ys by rw [gl_eq (by rw [List.length_set]; exact hk)]; simp]
        refine ⟨ownsRow_keep hr.1 fun g' hg' => Below.heap_setCell _ _ _ _ (fun e => hgn (by simp only at e; rw [← e]; exact hr.2 g' hg')), fun g' hg' => ?_⟩
        refine ⟨.inr (hr.2 g' hg'), ?_⟩
        simp only
        rw [if_pos (hr.2 g' hg')]
      · have hjl : j < vs.length := by have := (List.getElem?_eq_some_iff.1 hy).1; simpa using this
        rw [List.getElem?_set_ne (by omega)] at hy
        rw [show gl (xss.set k ys) j = gl xss j by rw [gl_eq (by rw [List.length_set]; omega), gl_eq (by omega), List.getElem_set_ne (by omega)]]
        have h5 := h4 j y hy
        refine ⟨ownsRow_keep h5.1 fun g' hg' => ?_, fun g' hg' => ?_⟩
        · have h6 := h5.2 g' hg'
          rw [Below.heap_setCell _ _ _ _ (fun e => by simp only at e; have := h6.2; rw [e] at this; have := hg.2; omega)]
          exact hc.block g' (hS g' h6.1) fun q => by have := q.2; have := h6.2; omega
        · have h6 := h5.2 g' hg'
          refine ⟨.inl h6.1, ?_⟩
          simp only
          rw [if_neg (fun q => by have := (hS3 g' q h6.1).2; have := h6.2; omega), if_neg (by have := h6.2; omega)]
          exact h6.2
/-- A row is put to the end: the outer row has been appended to. -/
theorem OwS.pushS {w w' : World} {S S2 : Nat → Prop} {v v' u : Value} {xss : List (List Int)} {xs : List Int} {vs : List Value} {tag : Nat → Nat} (h2 : ∀ g, v.ownBlock = some g → S g ∧ tag g = 0) (h3 : vs.length = xss.length) (h4 : ∀ k u, vs[k]? = some u → (rw_ u (gl xss k)).p w (fun b => S b ∧ tag b = k + 1)) (hu : (rw_ u xs).p w S2) (hS : ∀ k, S k → k < w.heap.size) (hS2 : ∀ k, S2 k → k < w.heap.size) (hd : ∀ k, S2 k → ¬ S k)
    (hg : w.grownBy w' v.ownBlock) (hl : v'.ownBlock = v.ownBlock ∨ ∀ g, v'.ownBlock = some g → w.heap.size ≤ g)
    (hv' : w'.ownsRow 0 33 1 v' (xss.length + 1) (vs ++ [u])) : OwS w' (fun k => S k ∨ S2 k ∨ (w.heap.size ≤ k ∧ k < w'.heap.size)) v' (xss ++ [xs]) := by
  classical
  refine ⟨vs ++ [u], fun b => if w.heap.size ≤ b then 0 else if S2 b then xss.length + 1 else tag b, by rw [List.length_append]; exact hv', fun g hgv => ?_, by simp [h3], fun k x hx => ?_⟩
  · have hlt := (hv'.lt g hgv).2
    rcases hl with e | e
    · rw [e] at hgv
      obtain ⟨a, c⟩ := h2 g hgv
      refine ⟨.inl a, ?_⟩
      simp only
      rw [if_neg (by have := hS g a; omega), if_neg (fun q => hd g q a)]
      exact c
    · have := e g hgv
      exact ⟨.inr (.inr ⟨this, hlt⟩), by simp only; rw [if_pos this]⟩
  · by_cases hk : k < vs.length
    · rw [List.getElem?_append_left hk] at hx
      have hgl : gl (xss ++ [xs]) k = gl xss k := by
        rw [gl_eq (by simp; omega), gl_eq (by omega), List.getElem_append_left (by omega)]
      rw [hgl]
      have h5 := h4 k x hx
      refine ⟨ownsRow_keep h5.1 fun g hgx => hg.block g (hS g (h5.2 g hgx).1) fun e => ?_, fun g hgx => ?_⟩
      · have h6 := (h5.2 g hgx).2
        have h7 := (h2 g e.symm).2
        omega
      · obtain ⟨a, c⟩ := h5.2 g hgx
        refine ⟨.inl a, ?_⟩
        simp only
        rw [if_neg (by have := hS g a; omega), if_neg (fun q => hd g q a)]
        exact c
    · have hkl : k < (vs ++ [u]).length := (List.getElem?_eq_some_iff.1 hx).1
      simp at hkl
      obtain rfl : k = vs.length := by omega
      rw [List.getElem?_append_right (Nat.le_refl _)] at hx
      simp at hx
      subst hx
      have hgl : gl (xss ++ [xs]) vs.length = xs := by rw [h3, gl_eq (by simp)]; simp
      rw [hgl]
      refine ⟨ownsRow_keep hu.1 fun g hgx => hg.block g (hS2 g (hu.2 g hgx)) fun e => ?_, fun g hgx => ?_⟩
      · exact hd g (hu.2 g hgx) (h2 g e.symm).1
      · have h6 := hu.2 g hgx
        refine ⟨.inr (.inl h6), ?_⟩
        simp only
        rw [if_neg (by have := hS2 g h6; omega), if_pos h6, h3]
/-- append of a row (the last thing) to a slice of slices among the things; the row's slice lies in a block that has just been made. -/
theorem wpList_append_rowH {ops : Array Oper} {rest : List Oper} {o : Oper} {a : Act} {Q : Exit → Act → World → Prop} (hgd : o.guard = none) (s x : Operand)
    (ho : o.op = .call { callee := .builtin .append, args := #[s, x], argTypes := #[71, 71] })
    (w : World) (lo : Nat) (L1 L2 : List Itm) (v u : Value) (xss : List (List Int)) (xs : List Int) {g : Nat} (hs : a.eval s = v) (hx : a.eval x = .slice (some ⟨g, 0, none⟩) 1 1) (hgs : g = w.heap.size) (hone : u.oneCell' = true)
    (hH : Hs w lo (L1 ++ rws_ v xss :: (L2 ++ [rw_ u xs]))) (hlen : xss.length ≤ 1000000)
    (h : ∀ A c w', Hs w' lo (L1 ++ rws_ (.slice A (xss ++ [xs]).length c) (xss ++ [xs]) :: L2) → Below lo w w' → wpList Tryz.prog ops Q rest (a.put o.dst (.slice A (xss ++ [xs]).length c)) w') :
    wpList Tryz.prog ops Q (o :: rest) a (w.alloc (.cells #[u] 33)) := by
  subst hgs
  obtain ⟨S, S2, h1, h2, c1, c2, hd, hput⟩ := hH.merge L1 (rws_ v xss) L2 (rw_ u xs)
  have h1o : OwS w S v xss := h1
  obtain ⟨vs, tag, g1, g2, g3, g4⟩ := h1o
  have hlo := hH.size
  refine wpList_append_elem (size := 1) (z := .slice none 0 0) Tryz.underlying71 sl_info rfl (by decide) (by decide) hgd s x ho w 0 w.heap.size v xss.length vs [u] hs hx ⟨g1, fun g hg => (c1 g (g2 g hg).1).2⟩ (Nat.zero_le _) (by omega) rfl (by simpa using hone) ?_
  intro v' w' hO hg hl
  have hp := OwS.pushS g2 g3 g4 h2 (fun k q => (c1 k q).2) (fun k q => (c2 k q).2) hd hg hl hO.1
  have hc : ChgS (fun k => S k ∨ S2 k) w w' := ⟨hg.os, hg.tape, hg.output, hg.size, fun k hk hn => hg.block k hk fun e => hn (.inl (g2 k e.symm).1)⟩
  have hH' := hput (rws_ v' (xss ++ [xs])) w' hp hc
  obtain ⟨A, c, rfl, -⟩ := id (OwS.sl hp (B := w'.heap.size) fun b q => by
    rcases q with q | q | q
    · exact Nat.lt_of_lt_of_le (c1 b q).2 hg.size
    · exact Nat.lt_of_lt_of_le (c2 b q).2 hg.size
    · exact q.2)
  exact h A c w' hH' (hc.below (fun k q => by rcases q with q | q; exact (c1 k q).1; exact (c2 k q).1) hlo)
end Go.Proofs.YtgmppfhokfifgaaGreatDoor
