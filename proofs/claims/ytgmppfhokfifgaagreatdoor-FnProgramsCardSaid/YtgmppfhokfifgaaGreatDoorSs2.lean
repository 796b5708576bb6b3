/-
  Contracts of the laws' own helpers on [][]int64: toInt64SS, eqInt64SS, szInt64SS, markInt64SS, heldInt64SS.
-/
import Derived.Test.YtgmppfhokfifgaaGreatDoorSs
import Derived.Test.YtgmppfhokfifgaaGreatDoorInts
import Derived.Test.YtgmppfhokfifgaaGreatDoorSmall
namespace Go.Proofs.YtgmppfhokfifgaaGreatDoor
set_option maxRecDepth 10000
open Go.RowKit

/-- How many numbers lie in the rows. -/
theorem sl_info : (Tryz.prog.info? 33).map (fun i => (i.zero, i.size, i.bytes)) = some (some (.slice none 0 0), 1, 24) := by kernel_rfl
def lenSS : List (List Int) → Nat
  | [] => 0
  | xs :: r => xs.length + lenSS r
/-- What markInt64SS leaves. -/
def markSS (c : Int) : List (List Int) → List (List Int)
  | [] => []
  | xs :: r => countFrom c xs.length :: markSS (c + xs.length) r

/-- One of the rows; another may be put into its place. -/
theorem OwS.at_ {w : World} {S : Nat → Prop} {v : Value} {xss : List (List Int)} (h : OwS w S v xss) (k : Nat) (hk : k < xss.length) (hS : ∀ b, S b → b < w.heap.size) :
    ∃ g cap u a b, v = .slice (some ⟨g, 0, none⟩) xss.length cap ∧ w.cell? ⟨g, k, none⟩ = some u ∧ Ow w a b u (gl xss k) ∧ b ≤ w.heap.size ∧ (∀ j, a ≤ j → j < b → S j) ∧
      ∀ (ys : List Int) (w' : World), Ow w' a b u ys → Chg a b w w' → OwS w' S v (xss.set k ys) := by
  obtain ⟨vs, tag, h1, h2, h3, h4⟩ := h
  have h1' := h1
  rcases h1.2 with ⟨rfl, h0⟩ | ⟨g, cap, cur, rfl, hlo, hh, hn, hcap, hsz, htake⟩
  · omega
  · obtain ⟨u, hu⟩ : ∃ u, vs[k]? = some u := ⟨vs[k], List.getElem?_eq_getElem (by omega)⟩
    obtain ⟨a, b, ho, hab, hSj⟩ := ow_of_rw (h4 k u hu)
    have hb : b ≤ w.heap.size := by
      rcases hab with h5 | h5
      · omega
      · have := hS _ (hSj (b - 1) (by omega) (by omega)).1; omega
    refine ⟨g, cap, u, a, b, rfl, by rw [h1'.cellAt k (by omega), hu], ho, hb, fun j h5 h6 => (hSj j h5 h6).1, fun ys w' ho' hc => ?_⟩
    have hg := h2 g rfl
    have hgo : ¬ (a ≤ g ∧ g < b) := fun hc => by have := (hSj g hc.1 hc.2).2; omega
    refine ⟨vs, tag, ?_, h2, by simp [h3], fun j x hx => ?_⟩
    · rw [List.length_set]
      exact ownsRow_keep h1' fun g' hg' => by simp [Value.ownBlock] at hg'; subst hg'; exact hc.block g (hS g hg.1) (by omega)
    · by_cases hjk : j = k
      · subst hjk
        rw [hu] at hx
        injection hx with hx
        subst hx
        rw [show gl (xss.set j ys) j = ys by rw [gl_eq (by rw [List.length_set]; exact hk)]; simp]
        have h5 := rw_of_ow ho'
        exact ⟨h5.1, fun g' hg' => hSj g' (h5.2 g' hg').1 (h5.2 g' hg').2⟩
      · have hjl : j < xss.length := by have := (List.getElem?_eq_some_iff.1 hx).1; omega
        rw [show gl (xss.set k ys) j = gl xss j by rw [gl_eq (by rw [List.length_set]; exact hjl), gl_eq hjl, List.getElem_set_ne (by omega)]]
        have h5 := h4 j x hx
        refine (rw_ x (gl xss j)).keep h5 fun b' hb' => hc.block b' (hS b' hb'.1) ?_
        by_cases h6 : a ≤ b' ∧ b' < b
        · have h7 := (hSj b' h6.1 h6.2).2
          have := hb'.2
          omega
        · omega
/-- A row is stored into the outer row. -/
theorem OwS.set_ {w : World} {lo hi : Nat} {v u : Value} {xss : List (List Int)} {xs : List Int} (h : OwS w (Iv lo hi) v xss) (k : Nat) (hk : k < xss.length) (hu : Ow w hi w.heap.size u xs) (hhi : hi ≤ w.heap.size) :
    ∃ g cap x, v = .slice (some ⟨g, 0, none⟩) xss.length cap ∧ lo ≤ g ∧ g < hi ∧ w.cell? ⟨g, k, none⟩ = some x ∧ w.frozen? ⟨g, k, none⟩ = false ∧
      OwS (w.setCell ⟨g, k, none⟩ u) (Iv lo (w.setCell ⟨g, k, none⟩ u).heap.size) v (xss.set k xs) ∧ Chg lo hi w (w.setCell ⟨g, k, none⟩ u) := by
  obtain ⟨vs, tag, h1, h2, h3, h4⟩ := h
  have h1' := h1
  rcases h1.2 with ⟨rfl, h0⟩ | ⟨g, cap, cur, rfl, hlo, hh, hn, hcap, hsz, htake⟩
  · omega
  · obtain ⟨x, hx⟩ : ∃ x, vs[k]? = some x := ⟨vs[k], List.getElem?_eq_getElem (by omega)⟩
    have hg := h2 g rfl
    have hs := h1'.stored k u
    refine ⟨g, cap, x, rfl, hg.1.1, hg.1.2, by rw [h1'.cellAt k (by omega), hx], h1'.frozenAt k, ?_, ⟨rfl, rfl, rfl, by simp [World.setCell], fun j _ hj2 => Below.heap_setCell _ _ _ _ (by have := hg.1.1; have := hg.1.2; simp only; omega)⟩⟩
    have hsz : (w.setCell ⟨g, k, none⟩ u).heap.size = w.heap.size := by simp [World.setCell]
    refine ⟨vs.set k u, fun b => if hi ≤ b then k + 1 else if tag b = k + 1 then 0 else tag b, by rw [List.length_set]; exact hs.1, fun g' hg' => ?_, by simp [h3], fun j y hy => ?_⟩
    · simp [Value.ownBlock] at hg'
      subst hg'
      refine ⟨⟨hg.1.1, by rw [hsz]; have := hg.1.2; omega⟩, ?_⟩
      simp only
      rw [if_neg (by have := hg.1.2; omega), if_neg (by have := hg.2; omega)]
      exact hg.2
    · by_cases hjk : j = k
      · subst hjk
        rw [List.getElem?_set_self (by omega)] at hy
        injection hy with hy
        subst hy
        rw [show gl (xss.set j xs) j = xs by rw [gl_eq (by rw [List.length_set]; exact hk)]; simp]
        have h5 := rw_of_ow hu
        refine ⟨ownsRow_keep h5.1 fun g' hg' => Below.heap_setCell _ _ _ _ (by have := (h5.2 g' hg').1; have := hg.1.2; simp only; omega), fun g' hg' => ?_⟩
        have h6 := h5.2 g' hg'
        refine ⟨⟨by have := hg.1.1; have := hg.1.2; omega, by rw [hsz]; exact h6.2⟩, ?_⟩
        simp only
        rw [if_pos h6.1]
      · have hjl : j < vs.length := by have := (List.getElem?_eq_some_iff.1 hy).1; simpa using this
        rw [List.getElem?_set_ne (by omega)] at hy
        rw [show gl (xss.set k xs) j = gl xss j by rw [gl_eq (by rw [List.length_set]; omega), gl_eq (by omega), List.getElem_set_ne (by omega)]]
        have h5 := h4 j y hy
        refine ⟨ownsRow_keep h5.1 fun g' hg' => Below.heap_setCell _ _ _ _ (fun e => by have h6 := (h5.2 g' hg').2; simp only at e; rw [e] at h6; have := hg.2; omega), fun g' hg' => ?_⟩
        have h6 := h5.2 g' hg'
        refine ⟨⟨h6.1.1, by rw [hsz]; have := h6.1.2; omega⟩, ?_⟩
        simp only
        rw [if_neg (by have := h6.1.2; omega), if_neg (by have := h6.2; omega)]
        exact h6.2
end Go.Proofs.YtgmppfhokfifgaaGreatDoor
