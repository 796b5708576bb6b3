/-
  A row is put to the end of a machine's Front or Back (a machine in a box).
-/
import Derived.Test.YtgmppfhokfifgaaGreatDoorGma
import Derived.Test.YtgmppfhokfifgaaGreatDoorMst
import Derived.Test.YtgmppfhokfifgaaGreatDoorGmm
namespace Go.Proofs.YtgmppfhokfifgaaGreatDoor
set_option maxRecDepth 10000
open Go.RowKit

theorem OwBox.pushF {w : World} {S : Nat → Prop} {g : Nat} {m : Mac} (h : OwBox w S g m) (hS : ∀ j, S j → j < w.heap.size) :
    ∃ f b c l d vs, w.heap[g]? = some (.cells #[.int .i64 m.wd, .int .i64 m.rk, f, b, c, l, d] 75) ∧ S g ∧ OwR 33 1 w 0 w.heap.size f m.fr.length vs ∧ (∀ q, f.ownBlock = some q → S q ∧ q ≠ g) ∧
      ∀ (u : Value) (xs : List Int) (Su : Nat → Prop) (v' : Value) (w0 w' : World), Below w.heap.size w w0 → (rw_ u xs).p w0 Su → (∀ j, Su j → j < w0.heap.size) → (∀ j, Su j → ¬ S j) → w0.grownBy w' f.ownBlock → (v'.ownBlock = f.ownBlock ∨ ∀ q, v'.ownBlock = some q → w0.heap.size ≤ q) →
        w'.ownsRow 0 33 1 v' (m.fr.length + 1) (vs ++ [u]) →
        OwBox (w'.setCell ⟨g, 2, none⟩ v') (fun j => S j ∨ Su j ∨ (w0.heap.size ≤ j ∧ j < w'.heap.size)) g { m with fr := m.fr ++ [xs] } ∧ ChgS S w (w'.setCell ⟨g, 2, none⟩ v') := by
  classical
  obtain ⟨f, b, c, l, d, tag, hg, htg, hx, hp⟩ := h
  obtain ⟨vs, tg, v1, v2, v3, v4⟩ := hp.fr
  refine ⟨f, b, c, l, d, vs, hx, hg, ⟨v1, fun q hq => hS q (v2 q hq).1.1⟩, fun q hq => ⟨(v2 q hq).1.1, fun e => by subst e; have := (v2 q hq).1.2; omega⟩, ?_⟩
  intro u xs Su v' w0 w' hb0 hu hSu hd hgr hl hv'
  have hz0 := hb0.size
  have hkeep : ∀ j, S j → tag j ≠ 0 → w'.heap[j]? = w.heap[j]? := fun j q1 q2 => (hgr.block j (by have := hS j q1; omega) fun e => by have := (v2 j e.symm).1.2; omega).trans (hb0.block j (hS j q1))
  have hgb : ¬ (w0.heap.size ≤ g) := by have := hS g hg; omega
  obtain ⟨tag', t1, t2, -, q1, q2, q3, q4⟩ := hp.frame (w' := w') (S2 := fun k => S k ∧ tag k = 0) (S3 := fun j => (S j ∧ tag j = 0) ∨ Su j ∨ (w0.heap.size ≤ j ∧ j < w'.heap.size)) 0 (fun j q => q.2)
    (fun j q1 q2 => by rcases q1 with a | a | a; exact a; exact absurd q2 (hd j a); exact absurd (hS j q2) (by omega)) hkeep
  have hmono : ∀ (t : Nat) k, (S k ∨ ((S k ∧ tag k = 0) ∨ Su k ∨ (w0.heap.size ≤ k ∧ k < w'.heap.size))) ∧ tag' k = t → (S k ∨ Su k ∨ (w0.heap.size ≤ k ∧ k < w'.heap.size)) ∧ tag' k = t := fun t k q => ⟨by rcases q.1 with a | a | a | a; exact .inl a; exact .inl a.1; exact .inr (.inl a); exact .inr (.inr a), q.2⟩
  have hne : ∀ (t : Nat), t ≠ 5 → ∀ k, (S k ∨ Su k ∨ (w0.heap.size ≤ k ∧ k < w'.heap.size)) ∧ tag' k = t → (w'.setCell ⟨g, 2, none⟩ v').heap[k]? = w'.heap[k]? := fun t ht k q => Below.heap_setCell _ _ _ _ fun e => by
    simp only at e
    subst e
    have := t1 k hg
    omega
  have hxb : w'.heap[g]? = some (.cells #[.int .i64 m.wd, .int .i64 m.rk, f, b, c, l, d] 75) := (hkeep g hg (by omega)).trans hx
  have hnew : OwS w' (fun k => (S k ∨ Su k ∨ (w0.heap.size ≤ k ∧ k < w'.heap.size)) ∧ tag' k = 0) v' (m.fr ++ [xs]) := by
    have := OwS.pushS (w := w0) (w' := w') (S := fun k => S k ∧ tag k = 0) (S2 := Su) (v := f) (v' := v') (u := u) (xss := m.fr) (xs := xs) (vs := vs) (tag := tg) v2 v3 (fun k x hx => (rw_ x _).keep (v4 k x hx) fun j q => hb0.block j (hS j q.1.1)) hu (fun k q => by have := hS k q.1; omega) hSu (fun k q1 q2 => hd k q1 q2.1) hgr hl hv'
    refine this.mono fun k q => ?_
    rcases q with a | a | a
    · exact ⟨.inl a.1, by rw [t1 k a.1]; exact a.2⟩
    · exact ⟨.inr (.inl a), t2 k (.inr (.inl a))⟩
    · exact ⟨.inr (.inr a), t2 k (.inr (.inr a))⟩
  refine ⟨⟨v', b, c, l, d, tag', .inl hg, by rw [t1 g hg]; exact htg, heap_setCell_at (k := 2) v' hxb, hnew.keep (hne 0 (by omega)), ((q1 (by omega)).mono (hmono 1)).keep (hne 1 (by omega)), ((q2 (by omega)).mono (hmono 2)).keep (hne 2 (by omega)), ((q3 (by omega)).mono (hmono 3)).keep (hne 3 (by omega)), rw_keep (rw_mono (q4 (by omega)) (hmono 4)) (hne 4 (by omega))⟩, ?_⟩
  refine ⟨by show w'.os = w.os; rw [hgr.os, hb0.os], by show w'.tape = w.tape; rw [hgr.tape, hb0.tape], by show w'.output = w.output; rw [hgr.output, hb0.output], by simp only [World.setCell, Array.size_modify]; have := hgr.size; omega, fun j hj hn => ?_⟩
  rw [Below.heap_setCell _ _ _ _ (fun e => by simp only at e; subst e; exact hn hg)]
  exact (hgr.block j (by omega) fun e => hn (v2 j e.symm).1.1).trans (hb0.block j hj)
theorem OwBox.pushB {w : World} {S : Nat → Prop} {g : Nat} {m : Mac} (h : OwBox w S g m) (hS : ∀ j, S j → j < w.heap.size) :
    ∃ f b c l d vs, w.heap[g]? = some (.cells #[.int .i64 m.wd, .int .i64 m.rk, f, b, c, l, d] 75) ∧ S g ∧ OwR 33 1 w 0 w.heap.size b m.bk.length vs ∧ (∀ q, b.ownBlock = some q → S q ∧ q ≠ g) ∧
      ∀ (u : Value) (xs : List Int) (Su : Nat → Prop) (v' : Value) (w0 w' : World), Below w.heap.size w w0 → (rw_ u xs).p w0 Su → (∀ j, Su j → j < w0.heap.size) → (∀ j, Su j → ¬ S j) → w0.grownBy w' b.ownBlock → (v'.ownBlock = b.ownBlock ∨ ∀ q, v'.ownBlock = some q → w0.heap.size ≤ q) →
        w'.ownsRow 0 33 1 v' (m.bk.length + 1) (vs ++ [u]) →
        OwBox (w'.setCell ⟨g, 3, none⟩ v') (fun j => S j ∨ Su j ∨ (w0.heap.size ≤ j ∧ j < w'.heap.size)) g { m with bk := m.bk ++ [xs] } ∧ ChgS S w (w'.setCell ⟨g, 3, none⟩ v') := by
  classical
  obtain ⟨f, b, c, l, d, tag, hg, htg, hx, hp⟩ := h
  obtain ⟨vs, tg, v1, v2, v3, v4⟩ := hp.bk
  refine ⟨f, b, c, l, d, vs, hx, hg, ⟨v1, fun q hq => hS q (v2 q hq).1.1⟩, fun q hq => ⟨(v2 q hq).1.1, fun e => by subst e; have := (v2 q hq).1.2; omega⟩, ?_⟩
  intro u xs Su v' w0 w' hb0 hu hSu hd hgr hl hv'
  have hz0 := hb0.size
  have hkeep : ∀ j, S j → tag j ≠ 1 → w'.heap[j]? = w.heap[j]? := fun j q1 q2 => (hgr.block j (by have := hS j q1; omega) fun e => by have := (v2 j e.symm).1.2; omega).trans (hb0.block j (hS j q1))
  have hgb : ¬ (w0.heap.size ≤ g) := by have := hS g hg; omega
  obtain ⟨tag', t1, t2, q0, -, q2, q3, q4⟩ := hp.frame (w' := w') (S2 := fun k => S k ∧ tag k = 1) (S3 := fun j => (S j ∧ tag j = 1) ∨ Su j ∨ (w0.heap.size ≤ j ∧ j < w'.heap.size)) 1 (fun j q => q.2)
    (fun j q1 q2 => by rcases q1 with a | a | a; exact a; exact absurd q2 (hd j a); exact absurd (hS j q2) (by omega)) hkeep
  have hmono : ∀ (t : Nat) k, (S k ∨ ((S k ∧ tag k = 1) ∨ Su k ∨ (w0.heap.size ≤ k ∧ k < w'.heap.size))) ∧ tag' k = t → (S k ∨ Su k ∨ (w0.heap.size ≤ k ∧ k < w'.heap.size)) ∧ tag' k = t := fun t k q => ⟨by rcases q.1 with a | a | a | a; exact .inl a; exact .inl a.1; exact .inr (.inl a); exact .inr (.inr a), q.2⟩
  have hne : ∀ (t : Nat), t ≠ 5 → ∀ k, (S k ∨ Su k ∨ (w0.heap.size ≤ k ∧ k < w'.heap.size)) ∧ tag' k = t → (w'.setCell ⟨g, 3, none⟩ v').heap[k]? = w'.heap[k]? := fun t ht k q => Below.heap_setCell _ _ _ _ fun e => by
    simp only at e
    subst e
    have := t1 k hg
    omega
  have hxb : w'.heap[g]? = some (.cells #[.int .i64 m.wd, .int .i64 m.rk, f, b, c, l, d] 75) := (hkeep g hg (by omega)).trans hx
  have hnew : OwS w' (fun k => (S k ∨ Su k ∨ (w0.heap.size ≤ k ∧ k < w'.heap.size)) ∧ tag' k = 1) v' (m.bk ++ [xs]) := by
    have := OwS.pushS (w := w0) (w' := w') (S := fun k => S k ∧ tag k = 1) (S2 := Su) (v := b) (v' := v') (u := u) (xss := m.bk) (xs := xs) (vs := vs) (tag := tg) v2 v3 (fun k x hx => (rw_ x _).keep (v4 k x hx) fun j q => hb0.block j (hS j q.1.1)) hu (fun k q => by have := hS k q.1; omega) hSu (fun k q1 q2 => hd k q1 q2.1) hgr hl hv'
    refine this.mono fun k q => ?_
    rcases q with a | a | a
    · exact ⟨.inl a.1, by rw [t1 k a.1]; exact a.2⟩
    · exact ⟨.inr (.inl a), t2 k (.inr (.inl a))⟩
    · exact ⟨.inr (.inr a), t2 k (.inr (.inr a))⟩
  refine ⟨⟨f, v', c, l, d, tag', .inl hg, by rw [t1 g hg]; exact htg, heap_setCell_at (k := 3) v' hxb, ((q0 (by omega)).mono (hmono 0)).keep (hne 0 (by omega)), hnew.keep (hne 1 (by omega)), ((q2 (by omega)).mono (hmono 2)).keep (hne 2 (by omega)), ((q3 (by omega)).mono (hmono 3)).keep (hne 3 (by omega)), rw_keep (rw_mono (q4 (by omega)) (hmono 4)) (hne 4 (by omega))⟩, ?_⟩
  refine ⟨by show w'.os = w.os; rw [hgr.os, hb0.os], by show w'.tape = w.tape; rw [hgr.tape, hb0.tape], by show w'.output = w.output; rw [hgr.output, hb0.output], by simp only [World.setCell, Array.size_modify]; have := hgr.size; omega, fun j hj hn => ?_⟩
  rw [Below.heap_setCell _ _ _ _ (fun e => by simp only at e; subst e; exact hn hg)]
  exact (hgr.block j (by omega) fun e => hn (v2 j e.symm).1.1).trans (hb0.block j hj)
end Go.Proofs.YtgmppfhokfifgaaGreatDoor
/-
  append of a whole slice of structures, and of carriers, to an empty row of the call's own.
-/
namespace Go.Proofs.YtgmppfhokfifgaaGreatDoor
set_option maxRecDepth 10000
open Go.RowKit

theorem op_append_cells {t e : TypeId} {size bytes : Nat} {z : Value} (ht : Tryz.prog.underlying t = some (.slice e)) (hinfo : (Tryz.prog.info? e).map (fun i => (i.zero, i.size, i.bytes)) = some (some z, size, bytes)) (hz : z.cells.size = size) (hs0 : 0 < size) (hby : bytes ≤ 100)
    {o : Oper} {a : Act} {K : Act → World → Prop} {Q : Exit → Act → World → Prop} (s x : Operand)
    (ho : o.op = .call { callee := .builtin .append, args := #[s, x], argTypes := #[t, t] })
    (w : World) (lo hi : Nat) (A : Option Addr) (n2 cap2 : Nat) (v : Value) (n : Nat) (us news : List Value) (hs : a.eval s = v) (hx : a.eval x = .slice A n2 cap2) (hA : A = none → n2 = 0 ∧ cap2 = 0) (hcell : ∀ ad, A = some ad → ∀ j u, news[j]? = some u → w.cell? (ad.add j) = some u)
    (hown : OwR e size w lo hi v n us) (hlo : lo ≤ w.heap.size) (hlen : n + n2 ≤ 1000000000) (hnl : news.length = n2 * size) (h1 : ∀ u ∈ news, u.oneCell' = true)
    (h : ∀ v' w', OwR e size w' lo w'.heap.size v' (n + n2) (us ++ news) → w.grownBy w' v.ownBlock → (v'.ownBlock = v.ownBlock ∨ ∀ g, v'.ownBlock = some g → w.heap.size ≤ g) → K (a.put o.dst v') w') :
    Oper.wp Tryz.prog o a w K Q := by
  obtain ⟨i0, hi0, hz0, hz1, hz2⟩ := info_parts hinfo
  cases A with
  | none =>
    obtain ⟨rfl, rfl⟩ := hA rfl
    obtain rfl : news = [] := List.eq_nil_of_length_eq_zero (by omega)
    have hr := run_append_owned_none (P := Tryz.prog) w lo t o.type e i0 size ht hi0 v n us hown.1
    unfold Oper.wp execOp
    simp only [ho, resolve, invoke, builtin, Sem.run_bind, Sem.run_pure, Result.andThen_ok, List.map_toArray, List.map_cons, List.map_nil, hs, hx, hr]
    exact h v w (by rw [List.append_nil]; exact ⟨hown.1, fun g hg => (hown.1.lt g hg).2⟩) (World.grownBy.refl _ _) (.inl rfl)
  | some ad =>
    obtain ⟨v', w', hr, h2, h3, h4⟩ := run_append_own_at (P := Tryz.prog) w lo t o.type e i0 z size bytes ht hi0 hz0 hz1 hz2 hz hs0 v n us hown.1
      ad n2 cap2 news (by omega) (hcell ad rfl) h1 (by simp only [maxLen]; omega) (by have := Nat.mul_le_mul (show n + n2 ≤ 1000000001 by omega) hby; omega) (by omega)
    unfold Oper.wp execOp
    simp only [ho, resolve, invoke, builtin, Sem.run_bind, Sem.run_pure, Result.andThen_ok, List.map_toArray, List.map_cons, List.map_nil, hs, hx, hr]
    refine h v' w' (OwR.of_own h2) h3 ?_
    rcases h4.2 with h4 | h4
    · exact .inl h4
    · exact .inr fun g hg => by rw [h4] at hg; injection hg with hg; omega
def clv : Cl → Value
  | .p x => x
  | .s _ => .slice none 0 0
def carV (C : List (Bool × Int)) : List Value := (carC C).map clv
theorem carV_len (C : List (Bool × Int)) : (carV C).length = C.length * 2 := by unfold carV; rw [List.length_map, carC_len]
theorem carC_p (C : List (Bool × Int)) : ∀ c ∈ carC C, ∃ x, c = .p x ∧ x.oneCell' = true := by
  intro c hc
  unfold carC at hc
  rw [List.mem_flatten] at hc
  obtain ⟨l, hl, hcl⟩ := hc
  obtain ⟨a, -, rfl⟩ := List.mem_map.1 hl
  simp only [carC1, List.mem_cons, List.not_mem_nil, or_false] at hcl
  rcases hcl with rfl | rfl
  · exact ⟨_, rfl, rfl⟩
  · exact ⟨_, rfl, rfl⟩
theorem carV_one (C : List (Bool × Int)) : ∀ u ∈ carV C, u.oneCell' = true := by
  intro u hu
  obtain ⟨c, hc, rfl⟩ := List.mem_map.1 hu
  obtain ⟨x, rfl, hx⟩ := carC_p C c hc
  exact hx
theorem SlK.carVals {w : World} {B : Nat} {A : Option Addr} {n cap : Nat} {C : List (Bool × Int)} (h : SlK w B (.slice A n cap) C) : n = C.length ∧ (A = none → n = 0 ∧ cap = 0) ∧ ∀ ad, A = some ad → ∀ j u, (carV C)[j]? = some u → w.cell? (ad.add j) = some u := by
  obtain ⟨A', c', e, hl, hm, ⟨h4, hn⟩, h5⟩ := h
  injection e with e1 e2 e3
  subst e1 e2 e3
  refine ⟨rfl, fun q => ⟨by have := hn q; omega, hn q⟩, fun ad had j u hu => ?_⟩
  have hj : j < (carV C).length := (List.getElem?_eq_some_iff.1 hu).1
  rw [carV_len] at hj
  obtain ⟨b, off, e, -, hc⟩ := h5 (by omega)
  rw [had] at e
  injection e with e
  subst e
  unfold carV at hu
  rw [List.getElem?_map] at hu
  obtain ⟨c, hcj, rfl⟩ := Option.map_eq_some_iff.1 hu
  obtain ⟨u2, q1, q2⟩ := hc j c hcj
  obtain ⟨x, rfl, -⟩ := carC_p C c (List.mem_of_getElem? hcj)
  rw [Addr.add_lit, q1]
  exact congrArg some q2
end Go.Proofs.YtgmppfhokfifgaaGreatDoor
