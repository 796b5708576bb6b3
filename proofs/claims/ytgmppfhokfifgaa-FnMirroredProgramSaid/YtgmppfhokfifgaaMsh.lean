/-
  A row is put to the end of a machine's Front or Back (a machine in a box).
-/
import Derived.Test.YtgmppfhokfifgaaGma
import Derived.Test.YtgmppfhokfifgaaMst
namespace Go.Proofs.Ytgmppfhokfifgaa
set_option maxRecDepth 10000
open Go.RowKit

theorem OwBox.pushF {w : World} {S : Nat → Prop} {g : Nat} {m : Mac} (h : OwBox w S g m) (hS : ∀ j, S j → j < w.heap.size) :
    ∃ f b c l d vs, w.heap[g]? = some (.cells #[.int .i64 m.wd, .int .i64 m.rk, f, b, c, l, d] 39) ∧ S g ∧ OwR 32 1 w 0 w.heap.size f m.fr.length vs ∧ (∀ q, f.ownBlock = some q → S q ∧ q ≠ g) ∧
      ∀ (u : Value) (xs : List Int) (Su : Nat → Prop) (v' : Value) (w0 w' : World), Below w.heap.size w w0 → (rw_ u xs).p w0 Su → (∀ j, Su j → j < w0.heap.size) → (∀ j, Su j → ¬ S j) → w0.grownBy w' f.ownBlock → (v'.ownBlock = f.ownBlock ∨ ∀ q, v'.ownBlock = some q → w0.heap.size ≤ q) →
        w'.ownsRow 0 32 1 v' (m.fr.length + 1) (vs ++ [u]) →
        OwBox (w'.setCell ⟨g, 2, none⟩ v') (fun j => S j ∨ Su j ∨ (w0.heap.size ≤ j ∧ j < w'.heap.size)) g { m with fr := m.fr ++ [xs] } ∧ ChgS S w (w'.setCell ⟨g, 2, none⟩ v') := by
  classical
  obtain ⟨f, b, c, l, d, tag, hg, htg, hx, hp⟩ := h
  obtain ⟨vs, tg, v1, v2, v3, v4⟩ := hp.fr
  refine ⟨f, b, c, l, d, vs, hx, hg, ⟨v1, fun q hq => hS q (v2 q hq).1.1⟩, fun q hq => ⟨(v2 q hq).1.1, fun e => by subst e; have := (v2 q hq).1.2; omega⟩, ?_⟩
  intro u xs Su v' w0 w' hb0 hu hSu hd hgr hl hv'
  have hz0 := hb0.size
  have hkeep : ∀ j, S j → tag j ≠ 0 → w'.heap[j]? = w.heap[j]? := fun j q1 q2 => (hgr.block j (by have := hS j q1; omega) fun e => by have := (v2 j e.symm).1.2; omega).trans (hb0.block j (hS j q1))
  have hgb : ¬ (w0.heap.size ≤ g) := by have := hS g hg; omega
  obtain ⟨tag', t1, t2, -, q1, q2, q3, q4⟩ := hp.frame (w' := w') (S2 := fun k => S k ∧ tag k = 0) (S3 := fun j => (S j ∧ tag j = 0) ∨ Su j ∨ (w0.heap.size ≤ j ∧ j < w'.heap.size)) 0 (fun j q => q.2)
    (fun j q1 q2 => by rcases q1 with a | a | a; exact a; exact absurd q2 (hd j a); exact absurd (hS j q2) (by omega)) hkeep
  have hmono : ∀ (t : Nat) k, (S k ∨ ((S k ∧ tag k = 0) ∨ Su k ∨ (w0.heap.size ≤ k ∧ k < w'.heap.size))) ∧ tag' k = t → (S k ∨ Su k ∨ (w0.heap.size ≤ k ∧ k < w'.heap.size)) ∧ tag' k = t := fun t k q => ⟨by rcases q.1 with a | a | a | a; exact .inl a; exact .inl a.1; exact .inr (.inl a); exact .inr (.inr a), q.2⟩
  have hne : ∀ (t : Nat), t ≠ 5 → ∀ k, (S k ∨ Su k ∨ (w0.heap.size ≤ k ∧ k < w'.heap.size)) ∧ tag' k = t → (w'.setCell ⟨g, 2, none⟩ v').heap[k]? = w'.heap[k]? := fun t ht k q => Below.heap_setCell _ _ _ _ fun e => by
    simp only at e
    subst e
    have := t1 k hg
    omega
  have hxb : w'.heap[g]? = some (.cells #[.int .i64 m.wd, .int .i64 m.rk, f, b, c, l, d] 39) := (hkeep g hg (by omega)).trans hx
  have hnew : OwS w' (fun k => (S k ∨ Su k ∨ (w0.heap.size ≤ k ∧ k < w'.heap.size)) ∧ tag' k = 0) v' (m.fr ++ [xs]) := by
    have := OwS.pushS (w := w0) (w' := w') (S := fun k => S k ∧ tag k = 0) (S2 := Su) (v := f) (v' := v') (u := u) (xss := m.fr) (xs := xs) (vs := vs) (tag := tg) v2 v3 (fun k x hx => (rw_ x _).keep (v4 k x hx) fun j q => hb0.block j (hS j q.1.1)) hu (fun k q => by have := hS k q.1; omega) hSu (fun k q1 q2 => hd k q1 q2.1) hgr hl hv'
    refine this.mono fun k q => ?_
    rcases q with a | a | a
    · exact ⟨.inl a.1, by rw [t1 k a.1]; exact a.2⟩
    · exact ⟨.inr (.inl a), t2 k (.inr (.inl a))⟩
    · exact ⟨.inr (.inr a), t2 k (.inr (.inr a))⟩
  refine ⟨⟨v', b, c, l, d, tag', .inl hg, by rw [t1 g hg]; exact htg, heap_setCell_at (k := 2) v' hxb, hnew.keep (hne 0 (by omega)), ((q1 (by omega)).mono (hmono 1)).keep (hne 1 (by omega)), ((q2 (by omega)).mono (hmono 2)).keep (hne 2 (by omega)), ((q3 (by omega)).mono (hmono 3)).keep (hne 3 (by omega)), rw_keep (rw_mono (q4 (by omega)) (hmono 4)) (hne 4 (by omega))⟩, ?_⟩
  refine ⟨by show w'.os = w.os; rw [hgr.os, hb0.os], by show w'.tape = w.tape; rw [hgr.tape, hb0.tape], by show w'.output = w.output; rw [hgr.output, hb0.output], by simp only [World.setCell, Array.size_modify]; have := hgr.size; omega, fun j hj hn => ?_⟩
  rw [Below.heap_setCell _ _ _ _ (fun e => by simp only at e; subst e; exact hn hg)]
  exact (hgr.block j (by omega) fun e => hn (v2 j e.symm).1.1).trans (hb0.block j hj)
theorem OwBox.pushB {w : World} {S : Nat → Prop} {g : Nat} {m : Mac} (h : OwBox w S g m) (hS : ∀ j, S j → j < w.heap.size) :
    ∃ f b c l d vs, w.heap[g]? = some (.cells #[.int .i64 m.wd, .int .i64 m.rk, f, b, c, l, d] 39) ∧ S g ∧ OwR 32 1 w 0 w.heap.size b m.bk.length vs ∧ (∀ q, b.ownBlock = some q → S q ∧ q ≠ g) ∧
      ∀ (u : Value) (xs : List Int) (Su : Nat → Prop) (v' : Value) (w0 w' : World), Below w.heap.size w w0 → (rw_ u xs).p w0 Su → (∀ j, Su j → j < w0.heap.size) → (∀ j, Su j → ¬ S j) → w0.grownBy w' b.ownBlock → (v'.ownBlock = b.ownBlock ∨ ∀ q, v'.ownBlock = some q → w0.heap.size ≤ q) →
        w'.ownsRow 0 32 1 v' (m.bk.length + 1) (vs ++ [u]) →
        OwBox (w'.setCell ⟨g, 3, none⟩ v') (fun j => S j ∨ Su j ∨ (w0.heap.size ≤ j ∧ j < w'.heap.size)) g { m with bk := m.bk ++ [xs] } ∧ ChgS S w (w'.setCell ⟨g, 3, none⟩ v') := by
  classical
  obtain ⟨f, b, c, l, d, tag, hg, htg, hx, hp⟩ := h
  obtain ⟨vs, tg, v1, v2, v3, v4⟩ := hp.bk
  refine ⟨f, b, c, l, d, vs, hx, hg, ⟨v1, fun q hq => hS q (v2 q hq).1.1⟩, fun q hq => ⟨(v2 q hq).1.1, fun e => by subst e; have := (v2 q hq).1.2; omega⟩, ?_⟩
  intro u xs Su v' w0 w' hb0 hu hSu hd hgr hl hv'
  have hz0 := hb0.size
  have hkeep : ∀ j, S j → tag j ≠ 1 → w'.heap[j]? = w.heap[j]? := fun j q1 q2 => (hgr.block j (by have := hS j q1; omega) fun e => by have := (v2 j e.symm).1.2; omega).trans (hb0.block j (hS j q1))
  have hgb : ¬ (w0.heap.size ≤ g) := by have := hS g hg; omega
  obtain ⟨tag', t1, t2, q0, -, q2, q3, q4⟩ := hp.frame (w' := w') (S2 := fun k => S k ∧ tag k = 1) (S3 := fun j => (S j ∧ tag j = 1) ∨ Su j ∨ (w0.heap.size ≤ j ∧ j < w'.heap.size)) 1 (fun j q => q.2)
    (fun j q1 q2 => by rcases q1 with a | a | a; exact a; exact absurd q2 (hd j a); exact absurd (hS j q2) (by omega)) hkeep
  have hmono : ∀ (t : Nat) k, (S k ∨ ((S k ∧ tag k = 1) ∨ Su k ∨ (w0.heap.size ≤ k ∧ k < w'.heap.size))) ∧ tag' k = t → (S k ∨ Su k ∨ (w0.heap.size ≤ k ∧ k < w'.heap.size)) ∧ tag' k = t := fun t k q => ⟨by rcases q.1 with a | a | a | a; exact .inl a; exact .inl a.1; exact .inr (.inl a); exact .inr (.inr a), q.2⟩
  have hne : ∀ (t : Nat), t ≠ 5 → ∀ k, (S k ∨ Su k ∨ (w0.heap.size ≤ k ∧ k < w'.heap.size)) ∧ tag' k = t → (w'.setCell ⟨g, 3, none⟩ v').heap[k]? = w'.heap[k]? := fun t ht k q => Below.heap_setCell _ _ _ _ fun e => by
    simp only at e
    subst e
    have := t1 k hg
    omega
  have hxb : w'.heap[g]? = some (.cells #[.int .i64 m.wd, .int .i64 m.rk, f, b, c, l, d] 39) := (hkeep g hg (by omega)).trans hx
  have hnew : OwS w' (fun k => (S k ∨ Su k ∨ (w0.heap.size ≤ k ∧ k < w'.heap.size)) ∧ tag' k = 1) v' (m.bk ++ [xs]) := by
    have := OwS.pushS (w := w0) (w' := w') (S := fun k => S k ∧ tag k = 1) (S2 := Su) (v := b) (v' := v') (u := u) (xss := m.bk) (xs := xs) (vs := vs) (tag := tg) v2 v3 (fun k x hx => (rw_ x _).keep (v4 k x hx) fun j q => hb0.block j (hS j q.1.1)) hu (fun k q => by have := hS k q.1; omega) hSu (fun k q1 q2 => hd k q1 q2.1) hgr hl hv'
    refine this.mono fun k q => ?_
    rcases q with a | a | a
    · exact ⟨.inl a.1, by rw [t1 k a.1]; exact a.2⟩
    · exact ⟨.inr (.inl a), t2 k (.inr (.inl a))⟩
    · exact ⟨.inr (.inr a), t2 k (.inr (.inr a))⟩
  refine ⟨⟨f, v', c, l, d, tag', .inl hg, by rw [t1 g hg]; exact htg, heap_setCell_at (k := 3) v' hxb, ((q0 (by omega)).mono (hmono 0)).keep (hne 0 (by omega)), hnew.keep (hne 1 (by omega)), ((q2 (by omega)).mono (hmono 2)).keep (hne 2 (by omega)), ((q3 (by omega)).mono (hmono 3)).keep (hne 3 (by omega)), rw_keep (rw_mono (q4 (by omega)) (hmono 4)) (hne 4 (by omega))⟩, ?_⟩
  refine ⟨by show w'.os = w.os; rw [hgr.os, hb0.os], by show w'.tape = w.tape; rw [hgr.tape, hb0.tape], by show w'.output = w.output; rw [hgr.output, hb0.output], by simp only [World.setCell, Array.size_modify]; have := hgr.size; omega, fun j hj hn => ?_⟩
  rw [Below.heap_setCell _ _ _ _ (fun e => by simp only at e; subst e; exact hn hg)]
  exact (hgr.block j (by omega) fun e => hn (v2 j e.symm).1.1).trans (hb0.block j hj)
end Go.Proofs.Ytgmppfhokfifgaa
