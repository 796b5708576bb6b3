/-
  append of a row to rows that the call has made.
-/
import Derived.Test.YtcoocjdkppdlmaaSs2
namespace Go.Proofs.Ytcoocjdkppdlmaa
set_option maxRecDepth 10000
open Go.RowKit

/-- A row is put to the end: the outer row has been appended to. -/
theorem OwS.push2 {w w' : World} {lo hi : Nat} {v v' u : Value} {xss : List (List Int)} {xs : List Int} {vs : List Value} {tag : Nat → Nat} (h2 : ∀ g, v.ownBlock = some g → Iv lo hi g ∧ tag g = 0) (h3 : vs.length = xss.length)
    (h4 : ∀ k u, vs[k]? = some u → (rw_ u (gl xss k)).p w (fun b => Iv lo hi b ∧ tag b = k + 1)) (hu : Ow w hi w.heap.size u xs) (hhi : hi ≤ w.heap.size)
    (hg : w.grownBy w' v.ownBlock) (hl : v'.ownBlock = v.ownBlock ∨ ∀ g, v'.ownBlock = some g → w.heap.size ≤ g)
    (hv' : w'.ownsRow 0 23 1 v' (xss.length + 1) (vs ++ [u])) (hlo : lo ≤ hi) : OwS w' (Iv lo w'.heap.size) v' (xss ++ [xs]) := by
  have hsz := hg.size
  refine ⟨vs ++ [u], fun b => if w.heap.size ≤ b then 0 else if hi ≤ b then xss.length + 1 else tag b, by rw [List.length_append]; exact hv', fun g hgv => ?_, by simp [h3], fun k x hx => ?_⟩
  · have hlt := (hv'.lt g hgv).2
    rcases hl with e | e
    · rw [e] at hgv
      obtain ⟨⟨a, b⟩, c⟩ := h2 g hgv
      refine ⟨⟨a, hlt⟩, ?_⟩
      simp only
      rw [if_neg (by omega), if_neg (by omega)]
      exact c
    · have := e g hgv
      exact ⟨⟨by omega, hlt⟩, by simp only; rw [if_pos this]⟩
  · by_cases hk : k < vs.length
    · rw [List.getElem?_append_left hk] at hx
      have hgl : gl (xss ++ [xs]) k = gl xss k := by
        rw [gl_eq (by simp; omega), gl_eq (by omega), List.getElem_append_left (by omega)]
      rw [hgl]
      have h5 := h4 k x hx
      refine ⟨ownsRow_keep h5.1 fun g hgx => hg.block g (by have := (h5.2 g hgx).1.2; omega) fun e => ?_, fun g hgx => ?_⟩
      · have h6 := (h5.2 g hgx).2
        have h7 := (h2 g e.symm).2
        omega
      · obtain ⟨⟨a, b⟩, c⟩ := h5.2 g hgx
        refine ⟨⟨a, by omega⟩, ?_⟩
        simp only
        rw [if_neg (by omega), if_neg (by omega)]
        exact c
    · have hkl : k < (vs ++ [u]).length := (List.getElem?_eq_some_iff.1 hx).1
      simp at hkl
      obtain rfl : k = vs.length := by omega
      rw [List.getElem?_append_right (Nat.le_refl _)] at hx
      simp at hx
      subst hx
      have hgl : gl (xss ++ [xs]) vs.length = xs := by rw [h3, gl_eq (by simp)]; simp
      rw [hgl]
      have h5 := rw_of_ow hu
      refine ⟨ownsRow_keep h5.1 fun g hgx => hg.block g (h5.2 g hgx).2 fun e => ?_, fun g hgx => ?_⟩
      · have h6 := h5.2 g hgx
        have h7 := (h2 g e.symm).1
        have := h7.2
        omega
      · have h6 := h5.2 g hgx
        refine ⟨⟨by omega, by omega⟩, ?_⟩
        simp only
        rw [if_neg (by omega), if_pos h6.1, h3]
theorem Ow.one {w : World} {lo hi : Nat} {u : Value} {xs : List Int} (h : Ow w lo hi u xs) : u.oneCell' = true := by
  rcases h.1.2 with ⟨rfl, _⟩ | ⟨g, cap, cur, rfl, _⟩ <;> rfl
theorem wpList_append_row {ops : Array Oper} {rest : List Oper} {o : Oper} {a : Act} {Q : Exit → Act → World → Prop} (hgd : o.guard = none) (s x : Operand)
    (ho : o.op = .call { callee := .builtin .append, args := #[s, x], argTypes := #[22, 22] })
    (w : World) (lo hi : Nat) (v u : Value) (xss : List (List Int)) (xs : List Int) (hs : a.eval s = v) (hx : a.eval x = .slice (some ⟨w.heap.size, 0, none⟩) 1 1)
    (hown : OwS w (Iv lo hi) v xss) (hu : Ow w hi w.heap.size u xs) (hlo : lo ≤ hi) (hhi : hi ≤ w.heap.size) (hlen : xss.length ≤ 1000000)
    (h : ∀ v' w', OwS w' (Iv lo w'.heap.size) v' (xss ++ [xs]) → Below lo w w' → wpList Try.prog ops Q rest (a.put o.dst v') w') :
    wpList Try.prog ops Q (o :: rest) a (w.alloc (.cells #[u] 23)) := by
  obtain ⟨vs, tag, h1, h2, h3, h4⟩ := hown
  refine wpList_append_elem (t := 22) (e := 23) (size := 1) (bytes := 24) (z := .slice none 0 0) Try.underlying22 sl_info rfl (by decide) (by decide) hgd s x ho w 0 w.heap.size v xss.length vs [u] hs hx
    ⟨h1, fun g hg => (h1.lt g hg).2⟩ (Nat.zero_le _) (by omega) rfl (by simp [hu.one]) ?_
  intro v' w' hr hg hl
  refine h v' w' (OwS.push2 h2 h3 h4 hu hhi hg hl hr.1 hlo) ⟨hg.os, hg.tape, hg.output, hg.size, fun k hk => hg.block k (by omega) fun e => ?_⟩
  have := (h2 k e.symm).1.1
  omega
theorem OwS.empty (w : World) : OwS (w.alloc (.cells #[] 23)) (Iv w.heap.size (w.alloc (.cells #[] 23)).heap.size) (.slice (some ⟨w.heap.size, 0, none⟩) 0 0) [] := by
  have h := (OwR.empty 23 1 w)
  refine ⟨[], fun _ => 0, ⟨h.1.1, ?_⟩, fun g hg => ?_, rfl, fun k u hu => by simp at hu⟩
  · rcases h.1.2 with h5 | ⟨g, cap, cur, e, hlo, r⟩
    · exact .inl h5
    · exact .inr ⟨g, cap, cur, e, Nat.zero_le _, r⟩
  · have h5 := h.1.lt g hg
    exact ⟨⟨h5.1, h5.2⟩, rfl⟩
end Go.Proofs.Ytcoocjdkppdlmaa
