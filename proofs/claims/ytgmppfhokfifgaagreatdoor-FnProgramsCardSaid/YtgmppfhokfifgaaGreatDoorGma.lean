/-
  A machine of the call's own in a box (OwBox): reading it, and replacing one of its parts.
-/
import Derived.Test.YtgmppfhokfifgaaGreatDoorMst
import Derived.Test.YtgmppfhokfifgaaGreatDoorGvm
import Derived.Test.YtgmppfhokfifgaaGreatDoorGmm
import Derived.Deep.RegionHeld3
import Derived.IntWalk
namespace Go.Proofs.YtgmppfhokfifgaaGreatDoor
set_option maxRecDepth 10000
open Go.RowKit

def OwBox (w : World) (S : Nat → Prop) (g : Nat) (m : Mac) : Prop :=
  ∃ f b c l d tag, S g ∧ tag g = 5 ∧ w.heap[g]? = some (.cells #[.int .i64 m.wd, .int .i64 m.rk, f, b, c, l, d] 75) ∧ OwP w S tag f b c l d m
theorem rw_keep {w w' : World} {S : Nat → Prop} {v : Value} {xs : List Int} (h : (rw_ v xs).p w S) (hk : ∀ k, S k → w'.heap[k]? = w.heap[k]?) : (rw_ v xs).p w' S := (rw_ v xs).keep h hk
theorem OwP.mono {w : World} {S S' : Nat → Prop} {tag : Nat → Nat} {f b c l d : Value} {m : Mac} (h : OwP w S tag f b c l d m) (hs : ∀ k, S k → S' k) : OwP w S' tag f b c l d m :=
  ⟨h.fr.mono fun k q => ⟨hs k q.1, q.2⟩, h.bk.mono fun k q => ⟨hs k q.1, q.2⟩, h.cr.mono fun k q => ⟨hs k q.1, q.2⟩, h.lp.mono fun k q => ⟨hs k q.1, q.2⟩, rw_mono h.dr fun k q => ⟨hs k q.1, q.2⟩⟩
theorem OwBox.mono {w : World} {S S' : Nat → Prop} {g : Nat} {m : Mac} (h : OwBox w S g m) (hs : ∀ k, S k → S' k) : OwBox w S' g m := by
  obtain ⟨f, b, c, l, d, tag, h1, h2, h3, h4⟩ := h
  exact ⟨f, b, c, l, d, tag, hs g h1, h2, h3, h4.mono hs⟩
theorem OwBox.keep {w w' : World} {S : Nat → Prop} {g : Nat} {m : Mac} (h : OwBox w S g m) (hk : ∀ k, S k → w'.heap[k]? = w.heap[k]?) : OwBox w' S g m := by
  obtain ⟨f, b, c, l, d, tag, h1, h2, h3, h4⟩ := h
  exact ⟨f, b, c, l, d, tag, h1, h2, by rw [hk g h1]; exact h3, h4.keep hk⟩
theorem OwBox.below {w w' : World} {S : Nat → Prop} {g : Nat} {m : Mac} (h : OwBox w S g m) (hS : ∀ k, S k → k < w.heap.size) (hb : Below w.heap.size w w') : OwBox w' S g m := h.keep fun k q => hb.block k (hS k q)
/-- What the machine reads as. -/
theorem OwBox.rd {w : World} {S : Nat → Prop} {g B : Nat} {m : Mac} (h : OwBox w S g m) (hS : ∀ k, S k → k < B) :
    ∃ f b c l d, w.heap[g]? = some (.cells #[.int .i64 m.wd, .int .i64 m.rk, f, b, c, l, d] 75) ∧ SlM w B f b c l d m ∧ S g := by
  obtain ⟨f, b, c, l, d, tag, h1, h2, h3, h4⟩ := h
  exact ⟨f, b, c, l, d, h3, OwM.sl ⟨tag, h4⟩ hS, h1⟩
/-- The parts but one stay, while the blocks of that one change and it may take others. -/
theorem OwP.frame {w w' : World} {S S2 S3 : Nat → Prop} {tag : Nat → Nat} {f b c l d : Value} {m : Mac} (h : OwP w S tag f b c l d m) (t : Nat) (h2 : ∀ j, S2 j → tag j = t) (h3 : ∀ j, S3 j → S j → S2 j) (hk : ∀ j, S j → tag j ≠ t → w'.heap[j]? = w.heap[j]?) :
    ∃ tag' : Nat → Nat, (∀ j, S j → tag' j = tag j) ∧ (∀ j, S3 j → tag' j = t) ∧
    ((t ≠ 0 → OwS w' (fun k => (S k ∨ S3 k) ∧ tag' k = 0) f m.fr) ∧ (t ≠ 1 → OwS w' (fun k => (S k ∨ S3 k) ∧ tag' k = 1) b m.bk) ∧ (t ≠ 2 → OwC 126 2 w' (fun k => (S k ∨ S3 k) ∧ tag' k = 2) c m.cr.length (carC m.cr)) ∧
     (t ≠ 3 → OwC 139 6 w' (fun k => (S k ∨ S3 k) ∧ tag' k = 3) l m.lp.length (infC m.lp)) ∧ (t ≠ 4 → (rw_ d m.dr).p w' (fun k => (S k ∨ S3 k) ∧ tag' k = 4))) := by
  classical
  have e1 : ∀ j, S j → (if S3 j then t else tag j) = tag j := fun j hj => by
    by_cases q : S3 j
    · rw [if_pos q, h2 j (h3 j q hj)]
    · rw [if_neg q]
  have e2 : ∀ u k, S k ∧ tag k = u → (S k ∨ S3 k) ∧ (if S3 k then t else tag k) = u := fun u k q => ⟨.inl q.1, by rw [e1 k q.1]; exact q.2⟩
  refine ⟨fun j => if S3 j then t else tag j, e1, fun j q => if_pos q, ?_, ?_, ?_, ?_, ?_⟩
  · exact fun ht => (h.fr.keep fun k q => hk k q.1 (by rw [q.2]; exact Ne.symm ht)).mono (e2 0)
  · exact fun ht => (h.bk.keep fun k q => hk k q.1 (by rw [q.2]; exact Ne.symm ht)).mono (e2 1)
  · exact fun ht => (h.cr.keep fun k q => hk k q.1 (by rw [q.2]; exact Ne.symm ht)).mono (e2 2)
  · exact fun ht => (h.lp.keep fun k q => hk k q.1 (by rw [q.2]; exact Ne.symm ht)).mono (e2 3)
  · exact fun ht => rw_mono (rw_keep h.dr fun k q => hk k q.1 (by rw [q.2]; exact Ne.symm ht)) (e2 4)
/-- The row on a needle: it may grow, or another be put into its place. -/
theorem OwBox.row {w : World} {S : Nat → Prop} {g : Nat} {m : Mac} (h : OwBox w S g m) (bed : Int) (k : Nat) (hk : k < (m.sd bed).length) (hS : ∀ j, S j → j < w.heap.size) :
    ∃ f b c l d p n cap u, ∃ S2 : Nat → Prop, w.heap[g]? = some (.cells #[.int .i64 m.wd, .int .i64 m.rk, f, b, c, l, d] 75) ∧ (if bed = 2 then b else f) = .slice (some ⟨p, 0, none⟩) n cap ∧ k < n ∧
      w.cell? ⟨p, k, none⟩ = some u ∧ w.frozen? ⟨p, k, none⟩ = false ∧ (rw_ u (gl (m.sd bed) k)).p w S2 ∧ (∀ j, S2 j → S j) ∧ ¬ S2 p ∧ S p ∧ S g ∧ ¬ S2 g ∧ p ≠ g ∧
      ∀ (u' : Value) (ys : List Int) (w' : World) (S3 : Nat → Prop), (rw_ u' ys).p w' S3 → (∀ j, S3 j → S j → S2 j) → ChgS S2 w w' → OwBox (w'.setCell ⟨p, k, none⟩ u') (fun j => S j ∨ S3 j) g (m.put bed k ys) := by
  obtain ⟨f, b, c, l, d, tag, hg, htg, hx, hp⟩ := h
  by_cases hb : bed = 2
  · simp only [Mac.sd, if_pos hb] at hk ⊢
    obtain ⟨p, cap, u, S2, rfl, e2, e3, e4, e5, e6, e7, e8⟩ := hp.bk.swap k hk fun j q => hS j q.1
    refine ⟨f, _, c, l, d, p, _, cap, u, S2, hx, rfl, hk, e2, e3, e4, fun j q => (e5 j q).1, e6, e7.1, hg, fun q => by have := (e5 g q).2; omega, fun q => by subst q; have := e7.2; omega, fun u' ys w' S3 hr h3 hc => ?_⟩
    have hkeep : ∀ j, S j → tag j ≠ 1 → (w'.setCell ⟨p, k, none⟩ u').heap[j]? = w.heap[j]? := fun j q1 q2 => by
      rw [Below.heap_setCell _ _ _ _ (fun e => by simp only at e; subst e; exact q2 e7.2)]
      exact hc.block j (hS j q1) fun q => q2 (e5 j q).2
    obtain ⟨tag', t1, t2, q0, -, q2, q3, q4⟩ := hp.frame (w' := w'.setCell ⟨p, k, none⟩ u') (S2 := S2) (S3 := S3) 1 (fun j q => (e5 j q).2) h3 hkeep
    have hnew := (e8 u' ys w' S3 hr (fun j q1 q2 => h3 j q1 q2.1) hc).mono (S' := fun j => (S j ∨ S3 j) ∧ tag' j = 1) fun j q => by
      rcases q with q | q
      · exact ⟨.inl q.1, by rw [t1 j q.1]; exact q.2⟩
      · exact ⟨.inr q, t2 j q⟩
    refine ⟨f, .slice (some ⟨p, 0, none⟩) m.bk.length cap, c, l, d, tag', .inl hg, by rw [t1 g hg]; exact htg, ?_, ?_⟩
    · rw [hkeep g hg (by omega), hx]
      simp [Mac.put, hb]
    · have e : m.put bed k ys = { m with bk := m.bk.set k ys } := by simp [Mac.put, hb]
      rw [e]
      exact ⟨q0 (by omega), hnew, q2 (by omega), q3 (by omega), q4 (by omega)⟩
  · simp only [Mac.sd, if_neg hb] at hk ⊢
    obtain ⟨p, cap, u, S2, rfl, e2, e3, e4, e5, e6, e7, e8⟩ := hp.fr.swap k hk fun j q => hS j q.1
    refine ⟨_, b, c, l, d, p, _, cap, u, S2, hx, rfl, hk, e2, e3, e4, fun j q => (e5 j q).1, e6, e7.1, hg, fun q => by have := (e5 g q).2; omega, fun q => by subst q; have := e7.2; omega, fun u' ys w' S3 hr h3 hc => ?_⟩
    have hkeep : ∀ j, S j → tag j ≠ 0 → (w'.setCell ⟨p, k, none⟩ u').heap[j]? = w.heap[j]? := fun j q1 q2 => by
      rw [Below.heap_setCell _ _ _ _ (fun e => by simp only at e; subst e; exact q2 e7.2)]
      exact hc.block j (hS j q1) fun q => q2 (e5 j q).2
    obtain ⟨tag', t1, t2, -, q1, q2, q3, q4⟩ := hp.frame (w' := w'.setCell ⟨p, k, none⟩ u') (S2 := S2) (S3 := S3) 0 (fun j q => (e5 j q).2) h3 hkeep
    have hnew := (e8 u' ys w' S3 hr (fun j q1 q2 => h3 j q1 q2.1) hc).mono (S' := fun j => (S j ∨ S3 j) ∧ tag' j = 0) fun j q => by
      rcases q with q | q
      · exact ⟨.inl q.1, by rw [t1 j q.1]; exact q.2⟩
      · exact ⟨.inr q, t2 j q⟩
    refine ⟨.slice (some ⟨p, 0, none⟩) m.fr.length cap, b, c, l, d, tag', .inl hg, by rw [t1 g hg]; exact htg, ?_, ?_⟩
    · rw [hkeep g hg (by omega), hx]
      simp [Mac.put, hb]
    · have e : m.put bed k ys = { m with fr := m.fr.set k ys } := by simp [Mac.put, hb]
      rw [e]
      exact ⟨hnew, q1 (by omega), q2 (by omega), q3 (by omega), q4 (by omega)⟩
/-- The rack's number is stored. -/
theorem OwBox.setR {w : World} {S : Nat → Prop} {g : Nat} {m : Mac} (h : OwBox w S g m) (r : Int) : OwBox (w.setCell ⟨g, 1, none⟩ (.int .i64 r)) S g { m with rk := r } ∧ ChgS S w (w.setCell ⟨g, 1, none⟩ (.int .i64 r)) := by
  obtain ⟨f, b, c, l, d, tag, hg, htg, hx, hp⟩ := h
  have hk : ∀ j, S j → tag j ≠ 5 → (w.setCell ⟨g, 1, none⟩ (.int .i64 r)).heap[j]? = w.heap[j]? := fun j _ q => Below.heap_setCell _ _ _ _ fun e => by simp only at e; subst e; exact q htg
  obtain ⟨tag', t1, -, q0, q1, q2, q3, q4⟩ := hp.frame (w' := w.setCell ⟨g, 1, none⟩ (.int .i64 r)) (S2 := fun _ => False) (S3 := fun _ => False) 5 (fun j q => q.elim) (fun j q => q.elim) hk
  have hor : ∀ (t : Nat) k, (S k ∨ False) ∧ tag' k = t → S k ∧ tag' k = t := fun t k q => ⟨by rcases q.1 with a | a; exact a; exact a.elim, q.2⟩
  refine ⟨⟨f, b, c, l, d, tag', hg, by rw [t1 g hg]; exact htg, heap_setCell_at (k := 1) _ hx, (q0 (by omega)).mono (hor 0), (q1 (by omega)).mono (hor 1), (q2 (by omega)).mono (hor 2), (q3 (by omega)).mono (hor 3), rw_mono (q4 (by omega)) (hor 4)⟩, rfl, rfl, rfl, by simp [World.setCell], fun j _ hj2 => Below.heap_setCell _ _ _ _ fun e => hj2 (by rw [e]; exact hg)⟩
/-- The dropped loops: the row may grow, or another be put into its place. -/
theorem OwBox.drop {w : World} {S : Nat → Prop} {g : Nat} {m : Mac} (h : OwBox w S g m) (hS : ∀ j, S j → j < w.heap.size) :
    ∃ f b c l d, ∃ S2 : Nat → Prop, w.heap[g]? = some (.cells #[.int .i64 m.wd, .int .i64 m.rk, f, b, c, l, d] 75) ∧ (rw_ d m.dr).p w S2 ∧ (∀ j, S2 j → S j) ∧ S g ∧ ¬ S2 g ∧
      ∀ (d' : Value) (ds : List Int) (w' : World) (S3 : Nat → Prop), (rw_ d' ds).p w' S3 → (∀ j, S3 j → S j → S2 j) → ChgS S2 w w' → OwBox (w'.setCell ⟨g, 6, none⟩ d') (fun j => S j ∨ S3 j) g { m with dr := ds } := by
  obtain ⟨f, b, c, l, d, tag, hg, htg, hx, hp⟩ := h
  refine ⟨f, b, c, l, d, fun k => S k ∧ tag k = 4, hx, hp.dr, fun j q => q.1, hg, fun q => by have := q.2; omega, fun d' ds w' S3 hr h3 hc => ?_⟩
  have hgn : ¬ S3 g := fun q => by have := (h3 g q hg).2; omega
  have hk : ∀ j, S j → tag j ≠ 4 → j ≠ g → (w'.setCell ⟨g, 6, none⟩ d').heap[j]? = w.heap[j]? := fun j q1 q2 q3 => by
    rw [Below.heap_setCell _ _ _ _ (fun e => q3 e)]
    exact hc.block j (hS j q1) fun q => q2 q.2
  -- the box apart: its tag is 5, and no part has it
  have hk' : ∀ j, S j → tag j ≠ 4 → w'.heap[j]? = w.heap[j]? := fun j q1 q2 => hc.block j (hS j q1) fun q => q2 q.2
  obtain ⟨tag', t1, t2, q0, q1, q2, q3, -⟩ := hp.frame (w' := w') (S2 := fun k => S k ∧ tag k = 4) (S3 := S3) 4 (fun j q => q.2) h3 hk'
  have hne : ∀ (t : Nat), t ≠ 5 → ∀ k, (S k ∨ S3 k) ∧ tag' k = t → (w'.setCell ⟨g, 6, none⟩ d').heap[k]? = w'.heap[k]? := fun t ht k q => Below.heap_setCell _ _ _ _ fun e => by
    simp only at e
    subst e
    have := t1 k hg
    omega
  have hxb : w'.heap[g]? = some (.cells #[.int .i64 m.wd, .int .i64 m.rk, f, b, c, l, d] 75) := (hk' g hg (by omega)).trans hx
  exact ⟨f, b, c, l, d', tag', .inl hg, by rw [t1 g hg]; exact htg, heap_setCell_at (k := 6) d' hxb, (q0 (by omega)).keep (hne 0 (by omega)), (q1 (by omega)).keep (hne 1 (by omega)), (q2 (by omega)).keep (hne 2 (by omega)), (q3 (by omega)).keep (hne 3 (by omega)),
    rw_keep (rw_mono hr fun j q => ⟨.inr q, t2 j q⟩) (hne 4 (by omega))⟩
end Go.Proofs.YtgmppfhokfifgaaGreatDoor
/-
  append of one element to a row of the call's own, the element lying anywhere: as a law on one operation, on a list of operations, and as a step of a drawn region. Slices of loops (OwC.pushI, OwBox.push).
-/
namespace Go.Proofs.YtgmppfhokfifgaaGreatDoor
set_option maxRecDepth 10000
open Go.RowKit

theorem op_append_elem {t e : TypeId} {size bytes : Nat} {z : Value} (ht : Tryz.prog.underlying t = some (.slice e)) (hinfo : (Tryz.prog.info? e).map (fun i => (i.zero, i.size, i.bytes)) = some (some z, size, bytes)) (hz : z.cells.size = size) (hs0 : 0 < size) (hby : bytes ≤ 100)
    {o : Oper} {a : Act} {K : Act → World → Prop} {Q : Exit → Act → World → Prop} (s x : Operand)
    (ho : o.op = .call { callee := .builtin .append, args := #[s, x], argTypes := #[t, t] })
    (w : World) (lo hi g0 : Nat) (v : Value) (n : Nat) (us news : List Value) (e' : TypeId) (hs : a.eval s = v) (hx : a.eval x = .slice (some ⟨g0, 0, none⟩) 1 1) (hg0 : w.heap[g0]? = some (.cells news.toArray e'))
    (hown : OwR e size w lo hi v n us) (hlo : lo ≤ w.heap.size) (hlen : n ≤ 1000000000) (hnl : news.length = size) (h1 : ∀ u ∈ news, u.oneCell' = true)
    (h : ∀ v' w', OwR e size w' lo w'.heap.size v' (n + 1) (us ++ news) → w.grownBy w' v.ownBlock → (v'.ownBlock = v.ownBlock ∨ ∀ g, v'.ownBlock = some g → w.heap.size ≤ g) → K (a.put o.dst v') w') :
    Oper.wp Tryz.prog o a w K Q := by
  obtain ⟨i0, hi0, hz0, hz1, hz2⟩ := info_parts hinfo
  have hcell : ∀ j u, news[j]? = some u → w.cell? ((⟨g0, 0, none⟩ : Addr).add j) = some u := by
    intro j u hu
    rw [Addr.add_lit, Nat.zero_add, cell_of_row w g0 j _ e' (0, 0) hg0]
    simpa using hu
  obtain ⟨v', w', hr, h2, h3, h4⟩ := run_append_own_at (P := Tryz.prog) w lo t o.type e i0 z size bytes ht hi0 hz0 hz1 hz2 hz hs0 v n us hown.1
    ⟨g0, 0, none⟩ 1 1 news (by omega) hcell h1 (by simp only [maxLen]; omega) (by have := Nat.mul_le_mul (show n + 1 ≤ 1000000001 by omega) hby; omega) (by omega)
  unfold Oper.wp execOp
  simp only [ho, resolve, invoke, builtin, Sem.run_bind, Sem.run_pure, Result.andThen_ok, List.map_toArray, List.map_cons, List.map_nil, hs, hx, hr]
  refine h v' w' (OwR.of_own h2) h3 ?_
  rcases h4.2 with h4 | h4
  · exact .inl h4
  · exact .inr fun g hg => by rw [h4] at hg; injection hg with hg; omega
theorem wpl_append_elem {t e : TypeId} {size bytes : Nat} {z : Value} (ht : Tryz.prog.underlying t = some (.slice e)) (hinfo : (Tryz.prog.info? e).map (fun i => (i.zero, i.size, i.bytes)) = some (some z, size, bytes)) (hz : z.cells.size = size) (hs0 : 0 < size) (hby : bytes ≤ 100)
    {ops : Array Oper} {rest : List Oper} {o : Oper} {a : Act} {Q : Exit → Act → World → Prop} (hgd : o.guard = none) (s x : Operand)
    (ho : o.op = .call { callee := .builtin .append, args := #[s, x], argTypes := #[t, t] })
    (w : World) (lo hi g0 : Nat) (v : Value) (n : Nat) (us news : List Value) (e' : TypeId) (hs : a.eval s = v) (hx : a.eval x = .slice (some ⟨g0, 0, none⟩) 1 1) (hg0 : w.heap[g0]? = some (.cells news.toArray e'))
    (hown : OwR e size w lo hi v n us) (hlo : lo ≤ w.heap.size) (hlen : n ≤ 1000000000) (hnl : news.length = size) (h1 : ∀ u ∈ news, u.oneCell' = true)
    (h : ∀ v' w', OwR e size w' lo w'.heap.size v' (n + 1) (us ++ news) → w.grownBy w' v.ownBlock → (v'.ownBlock = v.ownBlock ∨ ∀ g, v'.ownBlock = some g → w.heap.size ≤ g) → wpList Tryz.prog ops Q rest (a.put o.dst v') w') :
    wpList Tryz.prog ops Q (o :: rest) a w :=
  wpList_plain hgd fun _ hK => op_append_elem ht hinfo hz hs0 hby s x ho w lo hi g0 v n us news e' hs hx hg0 hown hlo hlen hnl h1 fun v' w' h2 h3 h4 => hK _ _ (h v' w' h2 h3 h4)
/-- A description is put to the end of a slice of descriptions. -/
theorem OwC.pushI {w w' : World} {S S2 : Nat → Prop} {v v' u : Value} {L : List (List Int)} {ps : List Int} {a0 a1 a2 a3 a4 : Int} {vs : List Value} {tag : Nat → Nat} (h2 : ∀ g, v.ownBlock = some g → S g ∧ tag g = 0) (h3 : vs.length = L.length * 6) (h4 : ∀ k x c, vs[k]? = some x → (infC L)[k]? = some c → ClO w (fun b => S b ∧ tag b = k + 1) c x)
    (hu : (rw_ u ps).p w S2) (hS : ∀ k, S k → k < w.heap.size) (hS2 : ∀ k, S2 k → k < w.heap.size) (hd : ∀ k, S2 k → ¬ S k) (hg : w.grownBy w' v.ownBlock) (hl : v'.ownBlock = v.ownBlock ∨ ∀ g, v'.ownBlock = some g → w.heap.size ≤ g)
    (hv' : w'.ownsRow 0 139 6 v' (L.length + 1) (vs ++ [.int .i64 a0, .int .i64 a1, .int .i64 a2, .int .i64 a3, .int .i64 a4, u])) :
    OwC 139 6 w' (fun k => S k ∨ S2 k ∨ (w.heap.size ≤ k ∧ k < w'.heap.size)) v' (L.length + 1) (infC (L ++ [a0 :: a1 :: a2 :: a3 :: a4 :: ps])) := by
  classical
  have hIL := infC_len L
  have hIA : infC (L ++ [a0 :: a1 :: a2 :: a3 :: a4 :: ps]) = infC L ++ [.p (.int .i64 a0), .p (.int .i64 a1), .p (.int .i64 a2), .p (.int .i64 a3), .p (.int .i64 a4), .s ps] := by
    unfold infC
    rw [List.map_append, List.flatten_append]
    simp [infC1, gi]
  refine ⟨vs ++ [.int .i64 a0, .int .i64 a1, .int .i64 a2, .int .i64 a3, .int .i64 a4, u], fun b => if w.heap.size ≤ b then 0 else if S2 b then vs.length + 5 + 1 else tag b, hv', fun g hgv => ?_, ⟨by rw [hIA]; simp; omega, by rw [hIA]; simp; omega⟩, fun k x c hx hc => ?_⟩
  · have hlt := (hv'.lt g hgv).2
    rcases hl with e | e
    · rw [e] at hgv
      obtain ⟨a, b⟩ := h2 g hgv
      refine ⟨.inl a, ?_⟩
      simp only
      rw [if_neg (by have := hS g a; omega), if_neg (fun q => hd g q a)]
      exact b
    · have := e g hgv
      exact ⟨.inr (.inr ⟨this, hlt⟩), by simp only; rw [if_pos this]⟩
  · rw [hIA] at hc
    by_cases hk : k < vs.length
    · rw [List.getElem?_append_left hk] at hx
      rw [List.getElem?_append_left (by omega)] at hc
      refine ((h4 k x c hx hc).keep fun b hb => hg.block b (hS b hb.1) fun e => ?_).iff fun b hb => ⟨.inl hb.1, ?_⟩
      · have := (h2 b e.symm).2
        have := hb.2
        omega
      · simp only
        rw [if_neg (by have := hS b hb.1; omega), if_neg (fun q => hd b q hb.1)]
        exact hb.2
    · rw [List.getElem?_append_right (by omega)] at hx
      rw [List.getElem?_append_right (by omega)] at hc
      have e : k - (infC L).length = k - vs.length := by omega
      rw [e] at hc
      have hlt : k - vs.length < 6 := by have := (List.getElem?_eq_some_iff.1 hx).1; simpa using this
      obtain ⟨j, hj⟩ : ∃ j, j = k - vs.length := ⟨_, rfl⟩
      rw [← hj] at hx hc hlt
      match j, hlt, hx, hc with
      | 0, _, hx, hc => simp at hx hc; subst hx hc; rfl
      | 1, _, hx, hc => simp at hx hc; subst hx hc; rfl
      | 2, _, hx, hc => simp at hx hc; subst hx hc; rfl
      | 3, _, hx, hc => simp at hx hc; subst hx hc; rfl
      | 4, _, hx, hc => simp at hx hc; subst hx hc; rfl
      | 5, _, hx, hc =>
        simp at hx hc
        subst hx hc
        have hk5 : k = vs.length + 5 := by omega
        refine ⟨ownsRow_keep hu.1 fun g hgx => hg.block g (hS2 g (hu.2 g hgx)) fun e => ?_, fun g hgx => ?_⟩
        · exact hd g (hu.2 g hgx) (h2 g e.symm).1
        · have h6 := hu.2 g hgx
          refine ⟨.inr (.inl h6), ?_⟩
          simp only
          rw [if_neg (by have := hS2 g h6; omega), if_pos h6]
          omega
/-- The loops' slice, to be appended to. -/
theorem OwBox.push {w : World} {S : Nat → Prop} {g : Nat} {m : Mac} (h : OwBox w S g m) (hS : ∀ j, S j → j < w.heap.size) :
    ∃ f b c l d vs, w.heap[g]? = some (.cells #[.int .i64 m.wd, .int .i64 m.rk, f, b, c, l, d] 75) ∧ S g ∧ OwR 139 6 w 0 w.heap.size l m.lp.length vs ∧ (∀ q, l.ownBlock = some q → S q ∧ q ≠ g) ∧
      ∀ (u : Value) (ps : List Int) (a0 a1 a2 a3 a4 : Int) (Su : Nat → Prop) (l' : Value) (w0 w' : World), Below w.heap.size w w0 → (rw_ u ps).p w0 Su → (∀ j, Su j → j < w0.heap.size) → (∀ j, Su j → ¬ S j) → w0.grownBy w' l.ownBlock → (l'.ownBlock = l.ownBlock ∨ ∀ q, l'.ownBlock = some q → w0.heap.size ≤ q) →
        w'.ownsRow 0 139 6 l' (m.lp.length + 1) (vs ++ [.int .i64 a0, .int .i64 a1, .int .i64 a2, .int .i64 a3, .int .i64 a4, u]) →
        OwBox (w'.setCell ⟨g, 5, none⟩ l') (fun j => S j ∨ Su j ∨ (w0.heap.size ≤ j ∧ j < w'.heap.size)) g { m with lp := m.lp ++ [a0 :: a1 :: a2 :: a3 :: a4 :: ps] } ∧ ChgS S w (w'.setCell ⟨g, 5, none⟩ l') := by
  classical
  obtain ⟨f, b, c, l, d, tag, hg, htg, hx, hp⟩ := h
  obtain ⟨vs, tg, v1, v2, ⟨v3, v3'⟩, v4⟩ := hp.lp
  refine ⟨f, b, c, l, d, vs, hx, hg, ⟨v1, fun q hq => hS q (v2 q hq).1.1⟩, fun q hq => ⟨(v2 q hq).1.1, fun e => by subst e; have := (v2 q hq).1.2; omega⟩, ?_⟩
  intro u ps a0 a1 a2 a3 a4 Su l' w0 w' hb0 hu hSu hd hgr hl hv'
  have hz0 := hb0.size
  -- all of S but the loops' own block stays
  have hkeep : ∀ j, S j → tag j ≠ 3 → w'.heap[j]? = w.heap[j]? := fun j q1 q2 => (hgr.block j (by have := hS j q1; omega) fun e => by have := (v2 j e.symm).1.2; omega).trans (hb0.block j (hS j q1))
  have hgb : ¬ (w0.heap.size ≤ g) := by have := hS g hg; omega
  obtain ⟨tag', t1, t2, q0, q1, q2, -, q4⟩ := hp.frame (w' := w') (S2 := fun k => S k ∧ tag k = 3) (S3 := fun j => (S j ∧ tag j = 3) ∨ Su j ∨ (w0.heap.size ≤ j ∧ j < w'.heap.size)) 3 (fun j q => q.2)
    (fun j q1 q2 => by rcases q1 with a | a | a; exact a; exact absurd q2 (hd j a); exact absurd (hS j q2) (by omega)) hkeep
  have hmono : ∀ (t : Nat) k, (S k ∨ ((S k ∧ tag k = 3) ∨ Su k ∨ (w0.heap.size ≤ k ∧ k < w'.heap.size))) ∧ tag' k = t → (S k ∨ Su k ∨ (w0.heap.size ≤ k ∧ k < w'.heap.size)) ∧ tag' k = t := fun t k q => ⟨by rcases q.1 with a | a | a | a; exact .inl a; exact .inl a.1; exact .inr (.inl a); exact .inr (.inr a), q.2⟩
  have hne : ∀ (t : Nat), t ≠ 5 → ∀ k, (S k ∨ Su k ∨ (w0.heap.size ≤ k ∧ k < w'.heap.size)) ∧ tag' k = t → (w'.setCell ⟨g, 5, none⟩ l').heap[k]? = w'.heap[k]? := fun t ht k q => Below.heap_setCell _ _ _ _ fun e => by
    simp only at e
    subst e
    have := t1 k hg
    omega
  have hxb : w'.heap[g]? = some (.cells #[.int .i64 m.wd, .int .i64 m.rk, f, b, c, l, d] 75) := (hkeep g hg (by omega)).trans hx
  have hlp : OwC 139 6 w' (fun k => (S k ∨ Su k ∨ (w0.heap.size ≤ k ∧ k < w'.heap.size)) ∧ tag' k = 3) l' (m.lp ++ [a0 :: a1 :: a2 :: a3 :: a4 :: ps]).length (infC (m.lp ++ [a0 :: a1 :: a2 :: a3 :: a4 :: ps])) := by
    have := OwC.pushI (w := w0) (w' := w') (S := fun k => S k ∧ tag k = 3) (S2 := Su) (v := l) (v' := l') (u := u) (L := m.lp) (ps := ps) (a0 := a0) (a1 := a1) (a2 := a2) (a3 := a3) (a4 := a4) (vs := vs) (tag := tg) v2 (by rw [v3, v3']) (fun k x c hx hc => (v4 k x c hx hc).keep fun j q => hb0.block j (hS j q.1.1)) hu (fun k q => by have := hS k q.1; omega) hSu (fun k q1 q2 => hd k q1 q2.1) hgr hl hv'
    rw [List.length_append]
    refine this.mono fun k q => ?_
    rcases q with a | a | a
    · exact ⟨.inl a.1, by rw [t1 k a.1]; exact a.2⟩
    · exact ⟨.inr (.inl a), t2 k (.inr (.inl a))⟩
    · exact ⟨.inr (.inr a), t2 k (.inr (.inr a))⟩
  refine ⟨⟨f, b, c, l', d, tag', .inl hg, by rw [t1 g hg]; exact htg, heap_setCell_at (k := 5) l' hxb, ((q0 (by omega)).mono (hmono 0)).keep (hne 0 (by omega)), ((q1 (by omega)).mono (hmono 1)).keep (hne 1 (by omega)), ((q2 (by omega)).mono (hmono 2)).keep (hne 2 (by omega)), hlp.keep (hne 3 (by omega)), rw_keep (rw_mono (q4 (by omega)) (hmono 4)) (hne 4 (by omega))⟩, ?_⟩
  refine ⟨by show w'.os = w.os; rw [hgr.os, hb0.os], by show w'.tape = w.tape; rw [hgr.tape, hb0.tape], by show w'.output = w.output; rw [hgr.output, hb0.output], by simp only [World.setCell, Array.size_modify]; have := hgr.size; omega, fun j hj hn => ?_⟩
  rw [Below.heap_setCell _ _ _ _ (fun e => by simp only at e; subst e; exact hn hg)]
  exact (hgr.block j (by omega) fun e => hn (v2 j e.symm).1.1).trans (hb0.block j hj)
end Go.Proofs.YtgmppfhokfifgaaGreatDoor
/-
  Contracts: the reference's l07Set, l07Carry (on a machine in a box).
-/
namespace Go.Proofs.YtgmppfhokfifgaaGreatDoor
set_option maxRecDepth 10000
open Go.RowKit

/-- The blocks of S, and those that are new since w. -/
def Now (S : Nat → Prop) (w w' : World) : Nat → Prop := fun k => S k ∨ (w.heap.size ≤ k ∧ k < w'.heap.size)
theorem now_lt {S : Nat → Prop} {w w' : World} (hS : ∀ j, S j → j < w.heap.size) (hz : w.heap.size ≤ w'.heap.size) : ∀ j, Now S w w' j → j < w'.heap.size := fun j q => by
  rcases q with q | q
  · have := hS j q; omega
  · exact q.2
theorem ChgS.cell {S : Nat → Prop} {w w' : World} (h : ChgS S w w') {p : Addr} (hp : p.block < w.heap.size) (hn : ¬ S p.block) : w'.cell? p = w.cell? p := by
  simp only [World.cell?, h.block p.block hp hn]
theorem ChgS.below' {S : Nat → Prop} {w a b : World} (h : ChgS S w a) (hb : Below a.heap.size a b) : ChgS S w b :=
  ⟨hb.os.trans h.os, hb.tape.trans h.tape, hb.output.trans h.output, Nat.le_trans h.size hb.size, fun k hk hn => (hb.block k (Nat.lt_of_lt_of_le hk h.size)).trans (h.block k hk hn)⟩
/-- A change of S's blocks behind one of new blocks, and so on. -/
theorem ChgS.then {S S2 : Nat → Prop} {w a b : World} (h : ChgS S w a) (k : ChgS S2 a b) (hs : ∀ j, j < w.heap.size → S2 j → S j) : ChgS S w b :=
  ⟨k.os.trans h.os, k.tape.trans h.tape, k.output.trans h.output, Nat.le_trans h.size k.size, fun i hi hn => (k.block i (Nat.lt_of_lt_of_le hi h.size) fun q => hn (hs i hi q)).trans (h.block i hi hn)⟩
theorem ChgS.setC {S : Nat → Prop} {w a : World} (h : ChgS S w a) {p : Addr} (x : Value) (hp : S p.block) : ChgS S w (a.setCell p x) :=
  ⟨h.os, h.tape, h.output, by simp only [World.setCell, Array.size_modify]; exact h.size, fun k hk hn => (Below.heap_setCell _ _ _ _ fun e => hn (by rw [e]; exact hp)).trans (h.block k hk hn)⟩
/-- An operation in memory. -/
def OpL (w : World) (b o : Nat) (op : List Int) : Prop := OpAt w b o (gi op 0) (gi op 1) (gi op 2) (gi op 3) (gi op 4) (gi op 5) (gi op 6) (gi op 7)
theorem OpL.keep {w w' : World} {b o : Nat} {op : List Int} (h : OpL w b o op) (hk : ∀ j, w'.cell? ⟨b, o + j, none⟩ = w.cell? ⟨b, o + j, none⟩) (hk0 : w'.cell? ⟨b, o, none⟩ = w.cell? ⟨b, o, none⟩) : OpL w' b o op :=
  ⟨by rw [hk0]; exact h.c0, by rw [hk]; exact h.c1, by rw [hk]; exact h.c2, by rw [hk]; exact h.c3, by rw [hk]; exact h.c4, by rw [hk]; exact h.c5, by rw [hk]; exact h.c6, by rw [hk]; exact h.c7⟩
theorem OpL.lt {w : World} {b o : Nat} {op : List Int} (h : OpL w b o op) : b < w.heap.size := block_lt_of_cell h.c0
theorem OpL.below {w w' : World} {b o : Nat} {op : List Int} (h : OpL w b o op) (hb : Below w.heap.size w w') : OpL w' b o op := h.keep (fun _ => hb.cell h.lt) (hb.cell h.lt)
theorem OpL.chg {S : Nat → Prop} {w w' : World} {b o : Nat} {op : List Int} (h : OpL w b o op) (hc : ChgS S w w') (hn : ¬ S b) : OpL w' b o op := h.keep (fun _ => hc.cell h.lt hn) (hc.cell h.lt hn)
theorem OwBox.lt {w : World} {S : Nat → Prop} {g : Nat} {m : Mac} (h : OwBox w S g m) (hS : ∀ j, S j → j < w.heap.size) : g < w.heap.size := by
  obtain ⟨f, b, c, l, d, tag, h1, -⟩ := h
  exact hS g h1
set_option maxHeartbeats 1600000 in
theorem l07Set_any {w : World} {S Su : Nat → Prop} {g : Nat} {m : Mac} {bed : Int} {k : Nat} {u : Value} {ys : List Int} (h : OwBox w S g m) (hS : ∀ j, S j → j < w.heap.size) (hb : bed = 1 ∨ bed = 2) (hk : k < (m.sd bed).length)
    (hu : (rw_ u ys).p w Su) (hSu : ∀ j, Su j → j < w.heap.size) (hd : ∀ j, Su j → ¬ S j) :
    Calls Tryz.prog 122 #[.pointer (some ⟨g, 0, none⟩), .agg #[.int .i64 bed, .int .i64 k], u] w fun e w' => e = .returned (.tuple #[]) ∧ OwBox w' (fun j => S j ∨ Su j) g (m.put bed k ys) ∧ ChgS S w w' ∧ w.heap.size ≤ w'.heap.size := by
  obtain ⟨f, b, c, l, d, p, n, cap, u0, S2, hx, e1, kn, hc, hf, hr, s2, s2p, sp, sg, s2g, pg, put⟩ := h.row bed k hk hS
  have hpl := hS p sp
  obtain ⟨Au, cu, rfl, -⟩ := id (rw_sl hu hSu)
  have HX := Lib.hid hx
  have HB := Lib.hid hb
  have HE := Lib.hid e1
  have HC := Lib.hid hc
  have HF := Lib.hid hf
  have HPUT := Lib.hid put
  have HU := Lib.hid hu
  have HSP := Lib.hid sp
  clear hx hb e1 hc hf hr put hu s2 s2p sg s2g sp
  go_enter Tryz.func122, Tryz.ntmps122
  go_wp2_with fail
  generalize hW : w.alloc (.cells #[.int .i64 bed, .int .i64 k] 36) = W
  have ha : Below w.heap.size w W := by rw [← hW]; exact al1 w _
  have x1 : W.heap[w.heap.size]? = some (.cells #[.int .i64 bed, .int .i64 k] 36) := by rw [← hW]; exact alloc_at_ w _
  have hz : w.heap.size < W.heap.size := heap_lt x1
  have HX1 := Lib.hid (keep_fwd ha HX.out)
  have hc1 := (ha.cell (p := ⟨p, k, none⟩) hpl).trans HC.out
  have hf1 := (ha.frozen (p := ⟨p, k, none⟩) hpl).trans HF.out
  have HA := Lib.hid ha
  obtain ⟨y0, y1, -, -, -⟩ := box2f x1
  have hBed : ∀ W', W'.heap[g]? = W.heap[g]? → Calls Tryz.prog 147 #[.pointer (some ⟨g, 0, none⟩), .int .i64 bed] W' fun e w' => e = .returned (.slice (some ⟨p, 0, none⟩) n cap) ∧ W' = w' := fun W' h => by
    rw [← HE.out]; exact l07Bed_any (h.trans HX1.out) HB.out
  have HBED := Lib.hid hBed
  clear x1 ha hW hBed
  refine (HBED.out _ rfl).mono ?_
  rintro e w' ⟨rfl, rfl⟩
  go_wp2_with fail
  refine bodyPost_end (v := .tuple #[]) (by simp [results, Tryz.results122, go_sem]) rfl ⟨rfl, HPUT.out _ ys W Su (rw_keep HU.out fun j q => HA.out.block j (hSu j q)) (fun j q1 q2 => absurd q2 (hd j q1)) (ChgS.of_below HA.out), ?_, ?_⟩
  · exact (ChgS.of_below HA.out).setC _ HSP.out
  · simp only [World.setCell, Array.size_modify]; omega
end Go.Proofs.YtgmppfhokfifgaaGreatDoor
/-
  Carriers of a machine in a box: stores into their cells; contracts of the reference's l07Carry and l07In.
-/
namespace Go.Proofs.YtgmppfhokfifgaaGreatDoor
set_option maxRecDepth 10000
open Go.RowKit

/-- The carriers' cells. -/
theorem OwBox.cars {w : World} {S : Nat → Prop} {g : Nat} {m : Mac} (h : OwBox w S g m) (k : Nat) (hk : k < m.cr.length) :
    ∃ f b l d p n cap, w.heap[g]? = some (.cells #[.int .i64 m.wd, .int .i64 m.rk, f, b, .slice (some ⟨p, 0, none⟩) n cap, l, d] 75) ∧ n = m.cr.length ∧ S g ∧ S p ∧ p ≠ g ∧
      w.cell? ⟨p, k * 2, none⟩ = some (.bool (gc m.cr k).1) ∧ w.cell? ⟨p, k * 2 + 1, none⟩ = some (.int .i64 (gc m.cr k).2) ∧ w.frozen? ⟨p, k * 2, none⟩ = false ∧ w.frozen? ⟨p, k * 2 + 1, none⟩ = false := by
  obtain ⟨f, b, c, l, d, tag, hg, htg, hx, hp⟩ := h
  have hc0 := carC_get hk (j := 0) (by omega)
  have hc1 := carC_get hk (j := 1) (by omega)
  rw [Nat.add_zero] at hc0
  obtain ⟨p, cap, u0, rfl, sp, c0, f0, v0⟩ := hp.cr.shape hc0
  obtain ⟨p', cap', u1, e1', -, c1, f1, v1⟩ := hp.cr.shape hc1
  simp only [Value.slice.injEq, Option.some.injEq, Addr.mk.injEq] at e1'
  obtain ⟨⟨rfl, -, -⟩, -, rfl⟩ := e1'
  exact ⟨f, b, l, d, p, m.cr.length, cap, hx, rfl, hg, sp.1, fun q => by subst q; have := sp.2; omega, by rw [c0, v0 _ rfl], by rw [c1, v1 _ rfl], f0, f1⟩
/-- A store into one of a carrier's two cells. -/
theorem OwBox.carAny {w : World} {S : Nat → Prop} {g : Nat} {m : Mac} (h : OwBox w S g m) {f b l d : Value} {p n cap : Nat} (hx : w.heap[g]? = some (.cells #[.int .i64 m.wd, .int .i64 m.rk, f, b, .slice (some ⟨p, 0, none⟩) n cap, l, d] 75)) (k j : Nat) (hk : k < m.cr.length) (hj : j < 2) (x : Value) (o : Bool × Int)
    (ho : (carC1 (gc m.cr k)).set j (.p x) = carC1 o) : OwBox (w.setCell ⟨p, k * 2 + j, none⟩ x) S g { m with cr := m.cr.set k o } ∧ ChgS S w (w.setCell ⟨p, k * 2 + j, none⟩ x) ∧
      (w.setCell ⟨p, k * 2 + j, none⟩ x).heap[g]? = some (.cells #[.int .i64 m.wd, .int .i64 m.rk, f, b, .slice (some ⟨p, 0, none⟩) n cap, l, d] 75) := by
  obtain ⟨f', b', c', l', d', tag, hg, htg, hx', hp⟩ := h
  rw [hx] at hx'
  simp only [Option.some.injEq, Obj.cells.injEq, Array.mk.injEq, List.cons.injEq, and_true, true_and] at hx'
  obtain ⟨rfl, rfl, rfl, rfl, rfl⟩ := hx'
  have hlen := carC_len m.cr
  have hn : n = m.cr.length := by
    have := hp.cr.shape (carC_get hk (j := 0) (by omega))
    obtain ⟨p', cap', u, e, -⟩ := this
    injection e
  subst hn
  obtain ⟨hW, hcW⟩ := hp.cr.setP (k := k * 2 + j) (by omega) x
  rw [carC_set hk hj ho] at hW
  have hkk : ∀ i, S i → tag i ≠ 2 → (w.setCell ⟨p, k * 2 + j, none⟩ x).heap[i]? = w.heap[i]? := fun i q1 q2 => by
    refine Below.heap_setCell _ _ _ _ fun e => ?_
    simp only at e
    subst e
    obtain ⟨vs, tg, -, v2, -⟩ := hp.cr
    exact q2 (v2 _ rfl).1.2
  obtain ⟨tag', t1, -, q0, q1, -, q3, q4⟩ := hp.frame (S2 := fun _ => False) (S3 := fun _ => False) 2 (fun j q => q.elim) (fun j q => q.elim) hkk
  have hor : ∀ (t : Nat) k, (S k ∨ False) ∧ tag' k = t → S k ∧ tag' k = t := fun t k q => ⟨by rcases q.1 with a | a; exact a; exact a.elim, q.2⟩
  have hgk := (hkk g hg (by omega)).trans hx
  refine ⟨⟨f, b, _, l, d, tag', hg, by rw [t1 g hg]; exact htg, hgk, (q0 (by omega)).mono (hor 0), (q1 (by omega)).mono (hor 1), ?_, (q3 (by omega)).mono (hor 3), rw_mono (q4 (by omega)) (hor 4)⟩, hcW.mono fun i q => q.1, hgk⟩
  have := hW.mono (S' := fun k => S k ∧ tag' k = 2) fun j q => ⟨q.1, by rw [t1 j q.1]; exact q.2⟩
  simpa using this
theorem Mac.cr_set2 (m : Mac) (k : Nat) (a b : Bool × Int) : ({ ({ m with cr := m.cr.set k a } : Mac) with cr := (m.cr.set k a).set k b } : Mac) = { m with cr := m.cr.set k b } := by simp
theorem gc_set {C : List (Bool × Int)} {k : Nat} (h : k < C.length) (o : Bool × Int) : gc (C.set k o) k = o := by rw [gc_eq (by simpa using h)]; simp
/-- The At cell is stored. -/
theorem OwBox.carX {w : World} {S : Nat → Prop} {g : Nat} {m : Mac} (h : OwBox w S g m) {f b l d : Value} {p n cap : Nat} (hx : w.heap[g]? = some (.cells #[.int .i64 m.wd, .int .i64 m.rk, f, b, .slice (some ⟨p, 0, none⟩) n cap, l, d] 75)) (k : Nat) (hk : k < m.cr.length) (x : Int) :
    OwBox (w.setCell ⟨p, k * 2 + 1, none⟩ (.int .i64 x)) S g { m with cr := m.cr.set k ((gc m.cr k).1, x) } ∧ ChgS S w (w.setCell ⟨p, k * 2 + 1, none⟩ (.int .i64 x)) ∧
      (w.setCell ⟨p, k * 2 + 1, none⟩ (.int .i64 x)).heap[g]? = some (.cells #[.int .i64 m.wd, .int .i64 m.rk, f, b, .slice (some ⟨p, 0, none⟩) n cap, l, d] 75) := h.carAny hx k 1 hk (by omega) _ _ rfl
theorem OwBox.carA {w : World} {S : Nat → Prop} {g : Nat} {m : Mac} (h : OwBox w S g m) {f b l d : Value} {p n cap : Nat} (hx : w.heap[g]? = some (.cells #[.int .i64 m.wd, .int .i64 m.rk, f, b, .slice (some ⟨p, 0, none⟩) n cap, l, d] 75)) (k : Nat) (hk : k < m.cr.length) (a : Bool) :
    OwBox (w.setCell ⟨p, k * 2, none⟩ (.bool a)) S g { m with cr := m.cr.set k (a, (gc m.cr k).2) } ∧ ChgS S w (w.setCell ⟨p, k * 2, none⟩ (.bool a)) ∧
      (w.setCell ⟨p, k * 2, none⟩ (.bool a)).heap[g]? = some (.cells #[.int .i64 m.wd, .int .i64 m.rk, f, b, .slice (some ⟨p, 0, none⟩) n cap, l, d] 75) := h.carAny hx k 0 hk (by omega) _ (a, (gc m.cr k).2) rfl
/-- The At cell stored twice. -/
theorem OwBox.carXX {w : World} {S : Nat → Prop} {g : Nat} {m : Mac} (h : OwBox w S g m) {f b l d : Value} {p n cap : Nat} (hx : w.heap[g]? = some (.cells #[.int .i64 m.wd, .int .i64 m.rk, f, b, .slice (some ⟨p, 0, none⟩) n cap, l, d] 75)) (k : Nat) (hk : k < m.cr.length) (x y : Int) :
    OwBox ((w.setCell ⟨p, k * 2 + 1, none⟩ (.int .i64 x)).setCell ⟨p, k * 2 + 1, none⟩ (.int .i64 y)) S g { m with cr := m.cr.set k ((gc m.cr k).1, y) } ∧ ChgS S w ((w.setCell ⟨p, k * 2 + 1, none⟩ (.int .i64 x)).setCell ⟨p, k * 2 + 1, none⟩ (.int .i64 y)) := by
  obtain ⟨h1, c1, x1⟩ := h.carX hx k hk x
  obtain ⟨h2, c2, -⟩ := h1.carX x1 k (by simpa using hk) y
  rw [gc_set hk, Mac.cr_set2] at h2
  exact ⟨h2, c1.trans c2⟩
theorem carryB_eq (m : Mac) (o : List Int) : carryB m o = ((m.car o).1 && !(decide (gi o 1 = 1) && decide (plc (gi o 2) (gi o 3) m.rk < (m.car o).2)) && !(decide (gi o 1 = -1) && decide ((m.car o).2 < plc (gi o 2) (gi o 3) m.rk + 1))) := rfl
/-- Facts on a carrier's operation. -/
structure CarF (m : Mac) (o : List Int) : Prop where
  ok : OkM m
  dir : pur (gi o 1)
  bed : gi o 2 = 1 ∨ gi o 2 = 2
  at0 : 0 ≤ gi o 3
  at1 : gi o 3 ≤ 23
  c1 : 1 ≤ gi o 6
  c4 : gi o 6 ≤ 4
def doneC (m : Mac) (o : List Int) : Mac := if carryB m o then m.carried o else m
theorem doneC_yes {m : Mac} {o : List Int} (h : carryB m o = true) : doneC m o = m.carried o := by simp [doneC, h]
theorem doneC_no {m : Mac} {o : List Int} (h : carryB m o = false) : doneC m o = m := by simp [doneC, h]
theorem carried_eq {m : Mac} {o : List Int} {K : Nat} (hK : gi o 6 = (K : Int) + 1) (x : Int) (hx : carryAt m o = x) : m.carried o = { m with cr := m.cr.set K ((gc m.cr K).1, x) } := by
  have e : (gi o 6 - 1).toNat = K := by omega
  simp only [Mac.carried, Mac.setC, Mac.car, e, hx]
theorem car_eq {m : Mac} {o : List Int} {K : Nat} (hK : gi o 6 = (K : Int) + 1) : m.car o = gc m.cr K := by
  have e : (gi o 6 - 1).toNat = K := by omega
  simp only [Mac.car, e]
set_option maxRecDepth 100000 in
set_option maxHeartbeats 6400000 in
theorem l07Carry_any {w : World} {S : Nat → Prop} {g po oo : Nat} {m : Mac} {o : List Int} (h : OwBox w S g m) (hS : ∀ j, S j → j < w.heap.size) (hop : OpL w po oo o) (hpS : ¬ S po) (hf : CarF m o) :
    Calls Tryz.prog 118 #[.pointer (some ⟨g, 0, none⟩), .pointer (some ⟨po, oo, none⟩)] w fun e w' => e = .returned (.bool (carryB m o)) ∧ OwBox w' S g (doneC m o) ∧ ChgS S w w' := by
  obtain ⟨hok, hdir, hbed, a0, a1, c1, c4⟩ := hf
  obtain ⟨K, hK⟩ : ∃ K : Nat, gi o 6 = (K : Int) + 1 := ⟨(gi o 6 - 1).toNat, by omega⟩
  have hcr := hok.cr
  have hKl : K < m.cr.length := by omega
  have hK3 : (K : Int) ≤ 3 := by omega
  have hK0 : (0 : Int) ≤ (K : Int) := by omega
  have hrk := hok.rk
  have hwd := hok.wd
  have hct := hok.cs (gc m.cr K) (by rw [gc_eq hKl]; exact List.getElem_mem hKl)
  have hct2 : -3 ≤ (gc m.cr K).2 ∧ (gc m.cr K).2 ≤ m.wd + 3 := by
    simp only [crOk, Bool.and_eq_true, inR_iff] at hct; exact hct.1
  obtain ⟨ct0, ct1⟩ := hct2
  have ct2 : (gc m.cr K).2 ≤ 27 := by omega
  have hpb := plc_bd (b := gi o 2) ⟨a0, a1⟩ hrk
  obtain ⟨f, b, l, d, p, n, cap, hx, hn, sg, sp, pg, k0, k1, f0, f1⟩ := h.cars K hKl
  have hgl := heap_lt hx
  have hpl := block_lt_of_cell k0
  simp only at hpl
  have hKn : K < n := by omega
  have hne1 : ¬ p = po := fun q => hpS (q ▸ sp)
  have hne2 : ¬ po = p := fun q => hpS (q ▸ sp)
  have HX := Lib.hid hx
  have HH := Lib.hid h
  have HSP := Lib.hid sp
  have HCE := Lib.hid (car_eq (m := m) hK)
  have HCB := Lib.hid (carryB_eq m o)
  have HCA := Lib.hid (fun x hx => carried_eq (m := m) hK x hx)
  have HAT : Hid (carryAt m o = if gi o 1 = 1 then plc (gi o 2) (gi o 3) m.rk + 1 else plc (gi o 2) (gi o 3) m.rk) := Lib.hid rfl
  have HPL := Lib.hid (fun W => l07Place_any (gi o 2) (gi o 3) m.rk W ⟨a0, a1⟩ hrk)
  obtain ⟨x0, x1⟩ := hpb
  have hpo := hop.lt
  obtain ⟨-, o1, o2, o3, -, -, o6, -⟩ := hop
  rw [hK] at o6
  obtain ⟨⟨-, g1, -, -, g4, -, -⟩, -, -⟩ := box7 HX.out
  have HKL := Lib.hid hKl
  have HDIR := Lib.hid hdir
  have HS := Lib.hid hS
  clear hx h hS hpS sp hok hbed hct hcr hrk hK hdir
  rw [HCE.out] at HCB
  generalize hca : (gc m.cr K).1 = ca at *
  generalize hcx : (gc m.cr K).2 = ct at *
  generalize hX : plc (gi o 2) (gi o 3) m.rk = X at *
  have HCX := Lib.hid hcx
  have HCA2 := Lib.hid hca
  clear hca hcx hX
  clear c1 c4
  cases ca
  · have HT : Hid (carryB m o = false) := Lib.hid (by rw [HCB.out]; simp)
    go_enter Tryz.func118, Tryz.ntmps118
    go_wp2_with fail
    go_quiet (fail)
    have HK := Lib.hid (fun w' (hw : Below w.heap.size w w') => show (w'.cell? ⟨po, oo + 2, none⟩ = some (.int .i64 (gi o 2)) ∧ w'.cell? ⟨po, oo + 2 + 1, none⟩ = some (.int .i64 (gi o 3)) ∧ w'.cell? ⟨g, 1, none⟩ = some (.int .i64 m.rk)) ∧ Below w.heap.size w w' from ⟨⟨by rw [hw.cell hpo]; exact o2, by rw [hw.cell hpo]; exact o3, by rw [hw.cell hgl]; exact g1⟩, hw⟩)
    go_wp2_with fail
    go_region_held3 (fun w' => (w'.cell? ⟨po, oo + 2, none⟩ = some (.int .i64 (gi o 2)) ∧ w'.cell? ⟨po, oo + 2 + 1, none⟩ = some (.int .i64 (gi o 3)) ∧ w'.cell? ⟨g, 1, none⟩ = some (.int .i64 m.rk)) ∧ Below w.heap.size w w') (exact HK.out _ (by first | assumption | exact below_drewN (Below.refl _ _) _ | exact (below_drewN (Below.refl _ _) _).drew | go_grown))
      ((go_at_call 111; (refine (HPL.out _).mono ?_); rintro e w5 ⟨rfl, hb5⟩; have hb5' : Below w.heap.size w w5 := Below.trans (by first | assumption | exact below_drewN (Below.refl _ _) _ | exact (below_drewN (Below.refl _ _) _).drew | go_grown) (hb5.mono (Nat.le_refl _))))
    have q0 := (hb5'.cell (p := ⟨p, K * 2, none⟩) hpl).trans k0
    have q1 := (hb5'.cell (p := ⟨p, K * 2 + 1, none⟩) hpl).trans k1
    have qo := (hb5'.cell (p := ⟨po, oo + 1, none⟩) hpo).trans o1
    have z0 := (hb5'.frozen (p := ⟨p, K * 2, none⟩) hpl).trans f0
    have z1 := (hb5'.frozen (p := ⟨p, K * 2 + 1, none⟩) hpl).trans f1
    have HB5 := Lib.hid hb5'
    clear hb5 hb5' o1 o2 o3 o6 g1 g4 k0 k1 f0 f1 HK
    go_wp2_with fail
    go_ret
    exact ⟨ret_bool HT.out.symm, by rw [doneC_no HT.out]; exact HH.out.below HS.out HB5.out, ChgS.of_below HB5.out⟩
  · rcases HDIR.out with hd | hd
    · have HD := Lib.hid hd
      rw [hd] at o1
      clear hd
      by_cases hc : X < ct
      · have HT : Hid (carryB m o = false) := Lib.hid (by rw [HCB.out, HD.out]; simp [hc])
        have hcI : ct > X := by omega
        go_enter Tryz.func118, Tryz.ntmps118
        go_wp2_with fail
        go_quiet (fail)
        have HK := Lib.hid (fun w' (hw : Below w.heap.size w w') => show (w'.cell? ⟨po, oo + 2, none⟩ = some (.int .i64 (gi o 2)) ∧ w'.cell? ⟨po, oo + 2 + 1, none⟩ = some (.int .i64 (gi o 3)) ∧ w'.cell? ⟨g, 1, none⟩ = some (.int .i64 m.rk)) ∧ Below w.heap.size w w' from ⟨⟨by rw [hw.cell hpo]; exact o2, by rw [hw.cell hpo]; exact o3, by rw [hw.cell hgl]; exact g1⟩, hw⟩)
        go_wp2_with fail
        go_region_held3 (fun w' => (w'.cell? ⟨po, oo + 2, none⟩ = some (.int .i64 (gi o 2)) ∧ w'.cell? ⟨po, oo + 2 + 1, none⟩ = some (.int .i64 (gi o 3)) ∧ w'.cell? ⟨g, 1, none⟩ = some (.int .i64 m.rk)) ∧ Below w.heap.size w w') (exact HK.out _ (by first | assumption | exact below_drewN (Below.refl _ _) _ | exact (below_drewN (Below.refl _ _) _).drew | go_grown))
          ((go_at_call 111; (refine (HPL.out _).mono ?_); rintro e w5 ⟨rfl, hb5⟩; have hb5' : Below w.heap.size w w5 := Below.trans (by first | assumption | exact below_drewN (Below.refl _ _) _ | exact (below_drewN (Below.refl _ _) _).drew | go_grown) (hb5.mono (Nat.le_refl _))))
        have q0 := (hb5'.cell (p := ⟨p, K * 2, none⟩) hpl).trans k0
        have q1 := (hb5'.cell (p := ⟨p, K * 2 + 1, none⟩) hpl).trans k1
        have qo := (hb5'.cell (p := ⟨po, oo + 1, none⟩) hpo).trans o1
        have z0 := (hb5'.frozen (p := ⟨p, K * 2, none⟩) hpl).trans f0
        have z1 := (hb5'.frozen (p := ⟨p, K * 2 + 1, none⟩) hpl).trans f1
        have HB5 := Lib.hid hb5'
        clear hb5 hb5' o1 o2 o3 o6 g1 g4 k0 k1 f0 f1 HK
        go_wp2_with fail
        go_ret
        exact ⟨ret_bool HT.out.symm, by rw [doneC_no HT.out]; exact HH.out.below HS.out HB5.out, ChgS.of_below HB5.out⟩
      · have HT : Hid (carryB m o = true) := Lib.hid (by rw [HCB.out, HD.out]; simp [hc])
        have HE := Lib.hid (HCA.out (X + 1) (by rw [HAT.out, HD.out]; rfl))
        have hcI : ¬ ct > X := by omega
        go_enter Tryz.func118, Tryz.ntmps118
        go_wp2_with fail
        go_quiet (fail)
        have HK := Lib.hid (fun w' (hw : Below w.heap.size w w') => show (w'.cell? ⟨po, oo + 2, none⟩ = some (.int .i64 (gi o 2)) ∧ w'.cell? ⟨po, oo + 2 + 1, none⟩ = some (.int .i64 (gi o 3)) ∧ w'.cell? ⟨g, 1, none⟩ = some (.int .i64 m.rk)) ∧ Below w.heap.size w w' from ⟨⟨by rw [hw.cell hpo]; exact o2, by rw [hw.cell hpo]; exact o3, by rw [hw.cell hgl]; exact g1⟩, hw⟩)
        go_wp2_with fail
        go_region_held3 (fun w' => (w'.cell? ⟨po, oo + 2, none⟩ = some (.int .i64 (gi o 2)) ∧ w'.cell? ⟨po, oo + 2 + 1, none⟩ = some (.int .i64 (gi o 3)) ∧ w'.cell? ⟨g, 1, none⟩ = some (.int .i64 m.rk)) ∧ Below w.heap.size w w') (exact HK.out _ (by first | assumption | exact below_drewN (Below.refl _ _) _ | exact (below_drewN (Below.refl _ _) _).drew | go_grown))
          ((go_at_call 111; (refine (HPL.out _).mono ?_); rintro e w5 ⟨rfl, hb5⟩; have hb5' : Below w.heap.size w w5 := Below.trans (by first | assumption | exact below_drewN (Below.refl _ _) _ | exact (below_drewN (Below.refl _ _) _).drew | go_grown) (hb5.mono (Nat.le_refl _))))
        have q0 := (hb5'.cell (p := ⟨p, K * 2, none⟩) hpl).trans k0
        have q1 := (hb5'.cell (p := ⟨p, K * 2 + 1, none⟩) hpl).trans k1
        have qo := (hb5'.cell (p := ⟨po, oo + 1, none⟩) hpo).trans o1
        have z0 := (hb5'.frozen (p := ⟨p, K * 2, none⟩) hpl).trans f0
        have z1 := (hb5'.frozen (p := ⟨p, K * 2 + 1, none⟩) hpl).trans f1
        have HB5 := Lib.hid hb5'
        clear hb5 hb5' o1 o2 o3 o6 g1 g4 k0 k1 f0 f1 HK
        have HX5 := Lib.hid (keep_fwd HB5.out HX.out)
        have HM5 := Lib.hid (HH.out.below HS.out HB5.out)
        go_wp2_with fail
        go_ret
        have hfin := HM5.out.carXX HX5.out K HKL.out X (X + 1)
        rw [HCA2.out] at hfin
        exact ⟨ret_bool HT.out.symm, by rw [doneC_yes HT.out, HE.out]; exact hfin.1, (ChgS.of_below HB5.out).trans hfin.2⟩
    · have HD := Lib.hid hd
      rw [hd] at o1
      clear hd
      by_cases hc : ct < X + 1
      · have HT : Hid (carryB m o = false) := Lib.hid (by rw [HCB.out, HD.out]; simp [hc])
        go_enter Tryz.func118, Tryz.ntmps118
        go_wp2_with fail
        go_quiet (fail)
        have HK := Lib.hid (fun w' (hw : Below w.heap.size w w') => show (w'.cell? ⟨po, oo + 2, none⟩ = some (.int .i64 (gi o 2)) ∧ w'.cell? ⟨po, oo + 2 + 1, none⟩ = some (.int .i64 (gi o 3)) ∧ w'.cell? ⟨g, 1, none⟩ = some (.int .i64 m.rk)) ∧ Below w.heap.size w w' from ⟨⟨by rw [hw.cell hpo]; exact o2, by rw [hw.cell hpo]; exact o3, by rw [hw.cell hgl]; exact g1⟩, hw⟩)
        go_wp2_with fail
        go_region_held3 (fun w' => (w'.cell? ⟨po, oo + 2, none⟩ = some (.int .i64 (gi o 2)) ∧ w'.cell? ⟨po, oo + 2 + 1, none⟩ = some (.int .i64 (gi o 3)) ∧ w'.cell? ⟨g, 1, none⟩ = some (.int .i64 m.rk)) ∧ Below w.heap.size w w') (exact HK.out _ (by first | assumption | exact below_drewN (Below.refl _ _) _ | exact (below_drewN (Below.refl _ _) _).drew | go_grown))
          ((go_at_call 111; (refine (HPL.out _).mono ?_); rintro e w5 ⟨rfl, hb5⟩; have hb5' : Below w.heap.size w w5 := Below.trans (by first | assumption | exact below_drewN (Below.refl _ _) _ | exact (below_drewN (Below.refl _ _) _).drew | go_grown) (hb5.mono (Nat.le_refl _))))
        have q0 := (hb5'.cell (p := ⟨p, K * 2, none⟩) hpl).trans k0
        have q1 := (hb5'.cell (p := ⟨p, K * 2 + 1, none⟩) hpl).trans k1
        have qo := (hb5'.cell (p := ⟨po, oo + 1, none⟩) hpo).trans o1
        have z0 := (hb5'.frozen (p := ⟨p, K * 2, none⟩) hpl).trans f0
        have z1 := (hb5'.frozen (p := ⟨p, K * 2 + 1, none⟩) hpl).trans f1
        have HB5 := Lib.hid hb5'
        clear hb5 hb5' o1 o2 o3 o6 g1 g4 k0 k1 f0 f1 HK
        go_wp2_with fail
        go_ret
        exact ⟨ret_bool HT.out.symm, by rw [doneC_no HT.out]; exact HH.out.below HS.out HB5.out, ChgS.of_below HB5.out⟩
      · have HT : Hid (carryB m o = true) := Lib.hid (by rw [HCB.out, HD.out]; simp [hc])
        have HE := Lib.hid (HCA.out (X) (by rw [HAT.out, HD.out]; rfl))
        go_enter Tryz.func118, Tryz.ntmps118
        go_wp2_with fail
        go_quiet (fail)
        have HK := Lib.hid (fun w' (hw : Below w.heap.size w w') => show (w'.cell? ⟨po, oo + 2, none⟩ = some (.int .i64 (gi o 2)) ∧ w'.cell? ⟨po, oo + 2 + 1, none⟩ = some (.int .i64 (gi o 3)) ∧ w'.cell? ⟨g, 1, none⟩ = some (.int .i64 m.rk)) ∧ Below w.heap.size w w' from ⟨⟨by rw [hw.cell hpo]; exact o2, by rw [hw.cell hpo]; exact o3, by rw [hw.cell hgl]; exact g1⟩, hw⟩)
        go_wp2_with fail
        go_region_held3 (fun w' => (w'.cell? ⟨po, oo + 2, none⟩ = some (.int .i64 (gi o 2)) ∧ w'.cell? ⟨po, oo + 2 + 1, none⟩ = some (.int .i64 (gi o 3)) ∧ w'.cell? ⟨g, 1, none⟩ = some (.int .i64 m.rk)) ∧ Below w.heap.size w w') (exact HK.out _ (by first | assumption | exact below_drewN (Below.refl _ _) _ | exact (below_drewN (Below.refl _ _) _).drew | go_grown))
          ((go_at_call 111; (refine (HPL.out _).mono ?_); rintro e w5 ⟨rfl, hb5⟩; have hb5' : Below w.heap.size w w5 := Below.trans (by first | assumption | exact below_drewN (Below.refl _ _) _ | exact (below_drewN (Below.refl _ _) _).drew | go_grown) (hb5.mono (Nat.le_refl _))))
        have q0 := (hb5'.cell (p := ⟨p, K * 2, none⟩) hpl).trans k0
        have q1 := (hb5'.cell (p := ⟨p, K * 2 + 1, none⟩) hpl).trans k1
        have qo := (hb5'.cell (p := ⟨po, oo + 1, none⟩) hpo).trans o1
        have z0 := (hb5'.frozen (p := ⟨p, K * 2, none⟩) hpl).trans f0
        have z1 := (hb5'.frozen (p := ⟨p, K * 2 + 1, none⟩) hpl).trans f1
        have HB5 := Lib.hid hb5'
        clear hb5 hb5' o1 o2 o3 o6 g1 g4 k0 k1 f0 f1 HK
        have HX5 := Lib.hid (keep_fwd HB5.out HX.out)
        have HM5 := Lib.hid (HH.out.below HS.out HB5.out)
        go_wp2_with fail
        go_ret
        have hfin := HM5.out.carX HX5.out K HKL.out X
        rw [HCA2.out] at hfin
        exact ⟨ret_bool HT.out.symm, by rw [doneC_yes HT.out, HE.out]; exact hfin.1, (ChgS.of_below HB5.out).trans hfin.2.1⟩
end Go.Proofs.YtgmppfhokfifgaaGreatDoor
