/-
  A machine in a box: another row is put into the place of the one on a needle, whose blocks are free then.
-/
import Derived.Test.YtgmppfhokfifgaaGreatDoorGma
import Derived.Test.YtgmppfhokfifgaaGreatDoorGmd
import Derived.Test.YtgmppfhokfifgaaGreatDoorSlib
import Derived.Test.YtgmppfhokfifgaaGreatDoorGmb
namespace Go.Proofs.YtgmppfhokfifgaaGreatDoor
set_option maxRecDepth 10000
open Go.RowKit

theorem OwS.swapF {w : World} {S : Nat → Prop} {v : Value} {xss : List (List Int)} (h : OwS w S v xss) (k : Nat) (hk : k < xss.length) (hS : ∀ b, S b → b < w.heap.size) :
    ∃ g cap u, ∃ S2 : Nat → Prop, v = .slice (some ⟨g, 0, none⟩) xss.length cap ∧ w.cell? ⟨g, k, none⟩ = some u ∧ w.frozen? ⟨g, k, none⟩ = false ∧ (rw_ u (gl xss k)).p w S2 ∧ (∀ b, S2 b → S b) ∧ ¬ S2 g ∧ S g ∧
      ∀ (u' : Value) (ys : List Int) (w' : World) (S3 : Nat → Prop), (rw_ u' ys).p w' S3 → (∀ b, S3 b → S b → S2 b) → ChgS S2 w w' → OwS (w'.setCell ⟨g, k, none⟩ u') (fun b => (S b ∧ ¬ S2 b) ∨ S3 b) v (xss.set k ys) := by
  classical
  obtain ⟨vs, tag, h1, h2, h3, h4⟩ := h
  have h1' := h1
  rcases h1.2 with ⟨rfl, h0⟩ | ⟨g, cap, cur, rfl, hlo, hh, hn, hcap, hsz, htake⟩
  · omega
  · obtain ⟨u, hu⟩ : ∃ u, vs[k]? = some u := ⟨vs[k], List.getElem?_eq_getElem (by omega)⟩
    have hg := h2 g rfl
    refine ⟨g, cap, u, fun b => S b ∧ tag b = k + 1, rfl, by rw [h1'.cellAt k (by omega), hu], h1'.frozenAt k, h4 k u hu, fun b hb => hb.1, fun hb => by have := hb.2; have := hg.2; omega, hg.1, fun u' ys w' S3 hr hS3 hc => ?_⟩
    have h1w : w'.ownsRow 0 33 1 (.slice (some ⟨g, 0, none⟩) xss.length cap) xss.length vs :=
      ownsRow_keep h1' fun g' hg' => by simp [Value.ownBlock] at hg'; subst hg'; exact hc.block g (hS g hg.1) fun q => by have := q.2; have := hg.2; omega
    have hs := h1w.stored k u'
    have hgn : ¬ S3 g := fun q => by have := (hS3 g q hg.1).2; have := hg.2; omega
    refine ⟨vs.set k u', fun b => if S3 b then k + 1 else if tag b = k + 1 then 0 else tag b, by rw [List.length_set]; exact hs.1, fun g' hg' => ?_, by simp [h3], fun j y hy => ?_⟩
    · simp [Value.ownBlock] at hg'
      subst hg'
      refine ⟨.inl ⟨hg.1, fun q => by have := q.2; have := hg.2; omega⟩, ?_⟩
      simp only
      rw [if_neg hgn, if_neg (by have := hg.2; omega)]
      exact hg.2
    · by_cases hjk : j = k
      · subst hjk
        rw [List.getElem?_set_self (by omega)] at hy
        injection hy with hy
        subst hy
        rw [show gl (xss.set j ys) j = ys by rw [gl_eq (by rw [List.length_set]; exact hk)]; simp]
        refine ⟨ownsRow_keep hr.1 fun g' hg' => Below.heap_setCell _ _ _ _ (fun e => hgn (by simp only at e; rw [← e]; exact hr.2 g' hg')), fun g' hg' => ?_⟩
        refine ⟨.inr (hr.2 g' hg'), ?_⟩
        simp only
        rw [if_pos (hr.2 g' hg')]
      · have hjl : j < vs.length := by have := (List.getElem?_eq_some_iff.1 hy).1; simpa using this
        rw [List.getElem?_set_ne (by omega)] at hy
        rw [show gl (xss.set k ys) j = gl xss j by rw [gl_eq (by rw [List.length_set]; omega), gl_eq (by omega), List.getElem_set_ne (by omega)]]
        have h5 := h4 j y hy
        refine ⟨ownsRow_keep h5.1 fun g' hg' => ?_, fun g' hg' => ?_⟩
        · have h6 := h5.2 g' hg'
          rw [Below.heap_setCell _ _ _ _ (fun e => by simp only at e; have := h6.2; rw [e] at this; have := hg.2; omega)]
          exact hc.block g' (hS g' h6.1) fun q => by have := q.2; have := h6.2; omega
        · have h6 := h5.2 g' hg'
          refine ⟨.inl ⟨h6.1, fun q => by have := q.2; have := h6.2; omega⟩, ?_⟩
          simp only
          rw [if_neg (fun q => by have := (hS3 g' q h6.1).2; have := h6.2; omega), if_neg (by have := h6.2; omega)]
          exact h6.2
/-- Another row is put into the place of the one on a needle, whose blocks are free. -/
theorem OwBox.rowF {w : World} {S : Nat → Prop} {g : Nat} {m : Mac} (h : OwBox w S g m) (bed : Int) (k : Nat) (hk : k < (m.sd bed).length) (hS : ∀ j, S j → j < w.heap.size) :
    ∃ f b c l d p n cap u, ∃ S2 : Nat → Prop, w.heap[g]? = some (.cells #[.int .i64 m.wd, .int .i64 m.rk, f, b, c, l, d] 75) ∧ (if bed = 2 then b else f) = .slice (some ⟨p, 0, none⟩) n cap ∧ k < n ∧
      w.cell? ⟨p, k, none⟩ = some u ∧ w.frozen? ⟨p, k, none⟩ = false ∧ (rw_ u (gl (m.sd bed) k)).p w S2 ∧ (∀ j, S2 j → S j) ∧ ¬ S2 p ∧ S p ∧ S g ∧ ¬ S2 g ∧ p ≠ g ∧
      ∀ (u' : Value) (ys : List Int) (w' : World) (S3 : Nat → Prop), (rw_ u' ys).p w' S3 → (∀ j, S3 j → S j → S2 j) → ChgS S2 w w' → OwBox (w'.setCell ⟨p, k, none⟩ u') (fun j => (S j ∧ ¬ S2 j) ∨ S3 j) g (m.put bed k ys) := by
  obtain ⟨f, b, c, l, d, tag, hg, htg, hx, hp⟩ := h
  by_cases hb : bed = 2
  · simp only [Mac.sd, if_pos hb] at hk ⊢
    obtain ⟨p, cap, u, S2, rfl, e2, e3, e4, e5, e6, e7, e8⟩ := hp.bk.swapF k hk fun j q => hS j q.1
    refine ⟨f, _, c, l, d, p, _, cap, u, S2, hx, rfl, hk, e2, e3, e4, fun j q => (e5 j q).1, e6, e7.1, hg, fun q => by have := (e5 g q).2; omega, fun q => by subst q; have := e7.2; omega, fun u' ys w' S3 hr h3 hc => ?_⟩
    have hkeep : ∀ j, S j → tag j ≠ 1 → (w'.setCell ⟨p, k, none⟩ u').heap[j]? = w.heap[j]? := fun j q1 q2 => by
      rw [Below.heap_setCell _ _ _ _ (fun e => by simp only at e; subst e; exact q2 e7.2)]
      exact hc.block j (hS j q1) fun q => q2 (e5 j q).2
    obtain ⟨tag', t1, t2, q0, -, q2, q3, q4⟩ := hp.frame (w' := w'.setCell ⟨p, k, none⟩ u') (S2 := S2) (S3 := S3) 1 (fun j q => (e5 j q).2) h3 hkeep
    have hnew := (e8 u' ys w' S3 hr (fun j q1 q2 => h3 j q1 q2.1) hc).mono (S' := fun j => ((S j ∧ ¬ S2 j) ∨ S3 j) ∧ tag' j = 1) fun j q => by
      rcases q with ⟨q, qn⟩ | q
      · exact ⟨.inl ⟨q.1, qn⟩, by rw [t1 j q.1]; exact q.2⟩
      · exact ⟨.inr q, t2 j q⟩
    have hm : ∀ u, u ≠ 1 → ∀ j, (S j ∨ S3 j) ∧ tag' j = u → ((S j ∧ ¬ S2 j) ∨ S3 j) ∧ tag' j = u := fun u hu j q => ⟨by
      rcases q.1 with q1 | q1
      · exact .inl ⟨q1, fun q3 => hu (by rw [← q.2, t1 j q1]; exact (e5 j q3).2)⟩
      · exact .inr q1, q.2⟩
    refine ⟨f, .slice (some ⟨p, 0, none⟩) m.bk.length cap, c, l, d, tag', .inl ⟨hg, fun q => by have := (e5 g q).2; omega⟩, by rw [t1 g hg]; exact htg, ?_, ?_⟩
    · rw [hkeep g hg (by omega), hx]
      simp [Mac.put, hb]
    · have e : m.put bed k ys = { m with bk := m.bk.set k ys } := by simp [Mac.put, hb]
      rw [e]
      exact ⟨(q0 (by omega)).mono (hm 0 (by omega)), hnew, (q2 (by omega)).mono (hm 2 (by omega)), (q3 (by omega)).mono (hm 3 (by omega)), rw_mono (q4 (by omega)) (hm 4 (by omega))⟩
  · simp only [Mac.sd, if_neg hb] at hk ⊢
    obtain ⟨p, cap, u, S2, rfl, e2, e3, e4, e5, e6, e7, e8⟩ := hp.fr.swapF k hk fun j q => hS j q.1
    refine ⟨_, b, c, l, d, p, _, cap, u, S2, hx, rfl, hk, e2, e3, e4, fun j q => (e5 j q).1, e6, e7.1, hg, fun q => by have := (e5 g q).2; omega, fun q => by subst q; have := e7.2; omega, fun u' ys w' S3 hr h3 hc => ?_⟩
    have hkeep : ∀ j, S j → tag j ≠ 0 → (w'.setCell ⟨p, k, none⟩ u').heap[j]? = w.heap[j]? := fun j q1 q2 => by
      rw [Below.heap_setCell _ _ _ _ (fun e => by simp only at e; subst e; exact q2 e7.2)]
      exact hc.block j (hS j q1) fun q => q2 (e5 j q).2
    obtain ⟨tag', t1, t2, -, q1, q2, q3, q4⟩ := hp.frame (w' := w'.setCell ⟨p, k, none⟩ u') (S2 := S2) (S3 := S3) 0 (fun j q => (e5 j q).2) h3 hkeep
    have hnew := (e8 u' ys w' S3 hr (fun j q1 q2 => h3 j q1 q2.1) hc).mono (S' := fun j => ((S j ∧ ¬ S2 j) ∨ S3 j) ∧ tag' j = 0) fun j q => by
      rcases q with ⟨q, qn⟩ | q
      · exact ⟨.inl ⟨q.1, qn⟩, by rw [t1 j q.1]; exact q.2⟩
      · exact ⟨.inr q, t2 j q⟩
    have hm : ∀ u, u ≠ 0 → ∀ j, (S j ∨ S3 j) ∧ tag' j = u → ((S j ∧ ¬ S2 j) ∨ S3 j) ∧ tag' j = u := fun u hu j q => ⟨by
      rcases q.1 with q1 | q1
      · exact .inl ⟨q1, fun q3 => hu (by rw [← q.2, t1 j q1]; exact (e5 j q3).2)⟩
      · exact .inr q1, q.2⟩
    refine ⟨.slice (some ⟨p, 0, none⟩) m.fr.length cap, b, c, l, d, tag', .inl ⟨hg, fun q => by have := (e5 g q).2; omega⟩, by rw [t1 g hg]; exact htg, ?_, ?_⟩
    · rw [hkeep g hg (by omega), hx]
      simp [Mac.put, hb]
    · have e : m.put bed k ys = { m with fr := m.fr.set k ys } := by simp [Mac.put, hb]
      rw [e]
      exact ⟨hnew, (q1 (by omega)).mono (hm 1 (by omega)), (q2 (by omega)).mono (hm 2 (by omega)), (q3 (by omega)).mono (hm 3 (by omega)), rw_mono (q4 (by omega)) (hm 4 (by omega))⟩
theorem OwBox.bedsNe {w : World} {S : Nat → Prop} {g : Nat} {m : Mac} (h : OwBox w S g m) {x0 x1 f b c l d : Value} {t : TypeId} (hx : w.heap[g]? = some (.cells #[x0, x1, f, b, c, l, d] t)) {p1 p2 n1 n2 c1 c2 : Nat} (h1 : f = .slice (some ⟨p1, 0, none⟩) n1 c1) (h2 : b = .slice (some ⟨p2, 0, none⟩) n2 c2) : p1 ≠ p2 := by
  obtain ⟨f', b', c', l', d', tag, hg, htg, hx', hp⟩ := h
  rw [hx] at hx'
  simp only [Option.some.injEq, Obj.cells.injEq, Array.mk.injEq, List.cons.injEq] at hx'
  obtain ⟨⟨-, -, rfl, rfl, -, -, -, -⟩, -⟩ := hx'
  obtain ⟨vs, tg, -, v2, -⟩ := hp.fr
  obtain ⟨vs', tg', -, v2', -⟩ := hp.bk
  subst h1 h2
  have a1 := (v2 p1 rfl).1.2
  have a2 := (v2' p2 rfl).1.2
  intro e
  subst e
  omega
theorem box7_inj {w : World} {g : Nat} {a b c d e f h a' b' c' d' e' f' h' : Value} {t t' : TypeId} (h1 : w.heap[g]? = some (.cells #[a, b, c, d, e, f, h] t)) (h2 : w.heap[g]? = some (.cells #[a', b', c', d', e', f', h'] t')) : c = c' ∧ d = d' := by
  rw [h1] at h2
  simp only [Option.some.injEq, Obj.cells.injEq, Array.mk.injEq, List.cons.injEq] at h2
  exact ⟨h2.1.2.2.1, h2.1.2.2.2.1⟩
/-- A row is put into the place of the one on a needle of one bed, and the row of a needle of the other bed is taken out. -/
theorem OwBox.two {w : World} {S : Nat → Prop} {g : Nat} {m : Mac} (h : OwBox w S g m) (hS : ∀ j, S j → j < w.heap.size) (hok : OkM m) {fb fa tb ta : Int} (n1 : m.ndl fb fa) (n2 : m.ndl tb ta) (hne : fb ≠ tb) :
    ∃ f b c l d p1 k1 c1 u1 p2 k2 c2 u2, w.heap[g]? = some (.cells #[.int .i64 m.wd, .int .i64 m.rk, f, b, c, l, d] 75) ∧ (if fb = 2 then b else f) = .slice (some ⟨p1, 0, none⟩) k1 c1 ∧ fa.toNat < k1 ∧ (if tb = 2 then b else f) = .slice (some ⟨p2, 0, none⟩) k2 c2 ∧ ta.toNat < k2 ∧
      w.cell? ⟨p1, fa.toNat, none⟩ = some u1 ∧ w.frozen? ⟨p1, fa.toNat, none⟩ = false ∧ w.cell? ⟨p2, ta.toNat, none⟩ = some u2 ∧ w.frozen? ⟨p2, ta.toNat, none⟩ = false ∧ Sl w w.heap.size u1 (m.on fb fa) ∧ Sl w w.heap.size u2 (m.on tb ta) ∧ S p1 ∧ S p2 ∧ S g ∧ p1 ≠ p2 ∧ p1 ≠ g ∧ p2 ≠ g ∧
      ∀ (r : Value) (ys : List Int) (w' : World) (S3 : Nat → Prop), (rw_ r ys).p w' S3 → (∀ j, S3 j → ¬ S j) → (∀ j, S3 j → j < w'.heap.size) → Below w.heap.size w w' →
        ∃ S1 : Nat → Prop, (∀ j, S1 j → S j ∨ S3 j) ∧ ChgS S w (w'.setCell ⟨p2, ta.toNat, none⟩ r) ∧ ∀ w5, Below (w'.setCell ⟨p2, ta.toNat, none⟩ r).heap.size (w'.setCell ⟨p2, ta.toNat, none⟩ r) w5 →
          (w5.setCell ⟨p1, fa.toNat, none⟩ (.slice none 0 0)).heap.size = w5.heap.size ∧ OwBox (w5.setCell ⟨p1, fa.toNat, none⟩ (.slice none 0 0)) (fun j => (S j ∨ S3 j) ∧ ¬ S1 j) g ((m.put tb ta ys).put fb fa []) ∧ (rw_ u1 (m.on fb fa)).p (w5.setCell ⟨p1, fa.toNat, none⟩ (.slice none 0 0)) S1 ∧ ChgS S w (w5.setCell ⟨p1, fa.toNat, none⟩ (.slice none 0 0)) := by
  obtain ⟨f, b, c, l, d, p2, k2, c2, u2, S2, hx, e2, kn2, hc2, hf2, hr2, s2, ns2, sp2, sg, ns2g, p2g, put2⟩ := h.row tb ta.toNat (hok.sdlt n2) hS
  obtain ⟨f', b', c', l', d', p1, k1, c1, u1, S1x, hx', e1, kn1, hc1, hf1, hr1, s1, -, sp1, -, -, p1g, -⟩ := h.row fb fa.toNat (hok.sdlt n1) hS
  obtain ⟨rfl, rfl⟩ := box7_inj hx' hx
  have p12 : p1 ≠ p2 := by
    rcases n1.1 with q | q <;> rcases n2.1 with q2 | q2
    · omega
    · rw [q, if_neg (by decide)] at e1
      rw [q2, if_pos rfl] at e2
      exact h.bedsNe hx e1 e2
    · rw [q, if_pos rfl] at e1
      rw [q2, if_neg (by decide)] at e2
      exact fun e => h.bedsNe hx e2 e1 e.symm
    · omega
  refine ⟨f', b', c, l, d, p1, k1, c1, u1, p2, k2, c2, u2, hx, e1, kn1, e2, kn2, hc1, hf1, hc2, hf2, rw_sl hr1 (fun j q => hS j (s1 j q)), rw_sl hr2 (fun j q => hS j (s2 j q)), sp1, sp2, sg, p12, p1g, p2g, fun r ys w' S3 hr h3 h3l hb => ?_⟩
  have hz := hb.size
  have h4 := put2 r ys w' S3 hr (fun j q1 q2 => absurd q2 (h3 j q1)) (ChgS.of_below hb)
  rw [Int.toNat_of_nonneg n2.2.1] at h4
  have ch4 : ChgS S w (w'.setCell ⟨p2, ta.toNat, none⟩ r) := (ChgS.of_below hb).setC _ sp2
  have z4 : (w'.setCell ⟨p2, ta.toNat, none⟩ r).heap.size = w'.heap.size := by simp [World.setCell]
  have hS4 : ∀ j, (S j ∨ S3 j) → j < (w'.setCell ⟨p2, ta.toNat, none⟩ r).heap.size := fun j q => by
    rw [z4]
    rcases q with q | q
    · have := hS j q; omega
    · exact h3l j q
  have hsd : fa.toNat < ((m.put tb ta ys).sd fb).length := by
    have := hok.sdlt n1
    unfold Mac.put Mac.sd at *
    split <;> split <;> simp_all
  obtain ⟨f4, b4, c4, l4, d4, q1, k4, cc4, u4, S1, hx4, e4, kn4, hc4, hf4, hr4, s4, ns4, sp4, sg4, ns4g, q1g, put4⟩ := h4.rowF fb fa.toNat hsd hS4
  have hxg : (w'.setCell ⟨p2, ta.toNat, none⟩ r).heap[g]? = w.heap[g]? := (Below.heap_setCell _ _ _ _ (fun e => p2g e.symm)).trans (hb.block g (hS g sg))
  obtain ⟨rfl, rfl⟩ := box7_inj (hxg.trans hx) hx4
  rw [e1] at e4
  simp only [Value.slice.injEq, Option.some.injEq, Addr.mk.injEq] at e4
  obtain ⟨⟨rfl, -, -⟩, -, -⟩ := e4
  have hcu : (w'.setCell ⟨p2, ta.toNat, none⟩ r).cell? ⟨p1, fa.toNat, none⟩ = some u1 := by
    have e : (w'.setCell ⟨p2, ta.toNat, none⟩ r).heap[p1]? = w.heap[p1]? := (Below.heap_setCell _ _ _ _ (fun e => p12 (by simpa using e))).trans (hb.block p1 (hS p1 sp1))
    simp only [World.cell?, e] at hc1 ⊢
    exact hc1
  rw [hcu] at hc4
  injection hc4 with hc4
  subst hc4
  have hrow : gl ((m.put tb ta ys).sd fb) fa.toNat = m.on fb fa := on_put_other m (Ne.symm hne) n2.1 n1.1 ys
  rw [hrow] at hr4
  refine ⟨S1, s4, ch4, fun w5 hb5 => ?_⟩
  have h5 := put4 (.slice none 0 0) [] w5 (fun _ => False) ⟨World.ownsRow_nil _ _ _ _, by simp [Value.ownBlock]⟩ (fun j q => q.elim) (ChgS.of_below hb5)
  rw [Int.toNat_of_nonneg n1.2.1] at h5
  refine ⟨by simp [World.setCell], h5.mono fun j q => ?_, ?_, ?_⟩
  · rcases q with q | q
    · exact q
    · exact q.elim
  · refine ⟨ownsRow_keep hr4.1 fun j q => ?_, hr4.2⟩
    have q2 := hr4.2 j q
    rw [Below.heap_setCell _ _ _ _ (fun e => ns4 (by simp only at e; rw [← e]; exact q2))]
    exact hb5.block j (hS4 j (s4 j q2))
  · have hz5 := hb5.size
    refine ChgS.setC ⟨hb5.os.trans ch4.os, hb5.tape.trans ch4.tape, hb5.output.trans ch4.output, Nat.le_trans ch4.size hz5, fun j hj hn => (hb5.block j (by rw [z4]; omega)).trans (ch4.block j hj hn)⟩ _ sp1
end Go.Proofs.YtgmppfhokfifgaaGreatDoor
/-
  Contract: the program's transfer (on a machine in a box). Printed by gen_trf.py.
-/
namespace Go.Proofs.YtgmppfhokfifgaaGreatDoor
set_option maxRecDepth 10000
open Go.RowKit

def joinL (tb : Int) (xs ys : List Int) : List Int := if tb = 2 then xs ++ ys else ys ++ xs
theorem box2_at {w : World} {g : Nat} {a b : Value} {t : TypeId} (h : w.heap[g]? = some (.cells #[a, b] t)) : w.cell? ⟨g, 0, none⟩ = some a ∧ w.cell? ⟨g, 1, none⟩ = some b := ⟨(box2 h).1, (box2 h).2.1⟩
set_option maxRecDepth 100000 in
set_option maxHeartbeats 6400000 in
theorem transfer_any {w : World} {S : Nat → Prop} {g : Nat} {m : Mac} {fb fa tb ta : Int} (h : OwBox w S g m) (hS : ∀ j, S j → j < w.heap.size) (hok : OkM m) (n1 : m.ndl fb fa) (n2 : m.ndl tb ta) (hne : fb ≠ tb) :
    Calls Tryz.prog 93 #[.pointer (some ⟨g, 0, none⟩), .agg #[.int .i64 fb, .int .i64 fa], .agg #[.int .i64 tb, .int .i64 ta]] w fun e w' => ∃ (v : Value) (Sp S' : Nat → Prop), e = .returned v ∧ (rw_ v (m.on fb fa)).p w' Sp ∧ OwBox w' S' g ((m.put tb ta (joinL tb (m.on fb fa) (m.on tb ta))).put fb fa []) ∧ (∀ j, Sp j → ¬ S' j) ∧ (∀ j, S' j → Now S w w' j) ∧ (∀ j, Sp j → Now S w w' j) ∧ ChgS S w w' := by
  have hl1 := on_len hok n1
  have hl2 := on_len hok n2
  obtain ⟨f, b, c, l, d, p1, k1, c1, u1, p2, k2, c2, u2, hx, e1, kn1, e2, kn2, hc1, hf1, hc2, hf2, su1, su2, sp1, sp2, sg, p12, p1g, p2g, htwo⟩ := h.two hS hok n1 n2 hne
  obtain ⟨UA1, uc1, rfl, -⟩ := id su1
  obtain ⟨UA2, uc2, rfl, -⟩ := id su2
  have hgl := heap_lt hx
  have h1l := hS p1 sp1
  have h2l := hS p2 sp2
  have HX := Lib.hid hx
  have HTWO := Lib.hid htwo
  have HS := Lib.hid hS
  have HU1 := Lib.hid su1
  have HU2 := Lib.hid su2
  have HONf : Hid (∀ W : World, W.heap[g]? = w.heap[g]? → Calls Tryz.prog 91 #[.pointer (some ⟨g, 0, none⟩), .agg #[.int .i64 fb, .int .i64 fa]] W fun e w2 => e = .returned (.pointer (some ⟨p1, fa.toNat, none⟩)) ∧ Below W.heap.size W w2) := Lib.hid fun W q => by
    have := on_any (w := W) (q.trans hx) n1.1 (show fa = (fa.toNat : Int) from (Int.toNat_of_nonneg n1.2.1).symm) kn1 e1
    simpa using this
  have HONt : Hid (∀ W : World, W.heap[g]? = w.heap[g]? → Calls Tryz.prog 91 #[.pointer (some ⟨g, 0, none⟩), .agg #[.int .i64 tb, .int .i64 ta]] W fun e w2 => e = .returned (.pointer (some ⟨p2, ta.toNat, none⟩)) ∧ Below W.heap.size W w2) := Lib.hid fun W q => by
    have := on_any (w := W) (q.trans hx) n2.1 (show ta = (ta.toNat : Int) from (Int.toNat_of_nonneg n2.2.1).symm) kn2 e2
    simpa using this
  have HC1 := Lib.hid hc1
  have HC2 := Lib.hid hc2
  have HF1 := Lib.hid hf1
  have HF2 := Lib.hid hf2
  have HB1 := Lib.hid (al2 w (.cells #[.int .i64 fb, .int .i64 fa] 36) (.cells #[.int .i64 tb, .int .i64 ta] 36))
  have HY1 : Hid (((w.alloc (.cells #[.int .i64 fb, .int .i64 fa] 36)).alloc (.cells #[.int .i64 tb, .int .i64 ta] 36)).heap[w.heap.size]? = some (.cells #[.int .i64 fb, .int .i64 fa] 36)) := Lib.hid ((Below.heap_alloc _ _ _ (by simp)).trans (alloc_at_ w _))
  have HY2 : Hid (((w.alloc (.cells #[.int .i64 fb, .int .i64 fa] 36)).alloc (.cells #[.int .i64 tb, .int .i64 ta] 36)).heap[w.heap.size + 1]? = some (.cells #[.int .i64 tb, .int .i64 ta] 36)) := Lib.hid (by have := alloc_at_ (w.alloc (.cells #[.int .i64 fb, .int .i64 fa] 36)) (.cells #[.int .i64 tb, .int .i64 ta] 36); rwa [World.size_alloc] at this)
  have HZ1 : Hid (((w.alloc (.cells #[.int .i64 fb, .int .i64 fa] 36)).alloc (.cells #[.int .i64 tb, .int .i64 ta] 36)).heap.size = w.heap.size + 2) := Lib.hid (by simp)
  have HND := Lib.hid (And.intro n1 n2)
  have HNE := Lib.hid hne
  generalize hja : (m.on fb fa).length = L1 at *
  generalize hjb : (m.on tb ta).length = L2 at *
  have HL1 := Lib.hid hja
  have HL2 := Lib.hid hjb
  have hbt := n2.1
  clear h hS hx htwo su1 su2 hc1 hc2 hf1 hf2 e1 e2 kn1 kn2 n1 n2 hok hja hjb hne
  rcases hbt with rfl | rfl
  · go_enter Tryz.func93, Tryz.ntmps93
    go_wp2_with fail
    have hbd := HB1.out
    have hy1 := HY1.out
    have hy2 := HY2.out
    have hz1 := HZ1.out
    clear HB1 HY1 HY2 HZ1
    generalize ((w.alloc (.cells #[.int .i64 fb, .int .i64 fa] 36)).alloc (.cells #[.int .i64 1, .int .i64 ta] 36)) = w1 at *
    have HB1 := Lib.hid hbd
    have HY1 := Lib.hid hy1
    have HY2 := Lib.hid hy2
    have HZ1 := Lib.hid hz1
    clear hbd hy1 hy2 hz1
    refine (HONf.out _ (HB1.out.block g hgl)).mono ?_
    rintro e w2 ⟨rfl, hq⟩
    have b2 : Below w1.heap.size w1 w2 := hq
    clear hq
    obtain ⟨c0, c1'⟩ := box2_at (keep_fwd b2 HY1.out)
    obtain ⟨d0, d1⟩ := box2_at (keep_fwd b2 HY2.out)
    have r1 : w2.cell? ⟨p1, fa.toNat, none⟩ = some (.slice UA1 L1 uc1) := by rw [b2.cell (by have := HZ1.out; simp only; omega), HB1.out.cell h1l]; exact HC1.out
    obtain ⟨zs, hzs⟩ : ∃ zs, zs = (m.on 1 ta ++ m.on fb fa) := ⟨_, rfl⟩
    have HZS := Lib.hid hzs
    clear hzs
    have HKK := Lib.hid (fun (w' : World) (q : Below w1.heap.size w1 w') => show (w'.cell? ⟨w.heap.size + 1, 0, none⟩ = some (.int .i64 1) ∧ w'.cell? ⟨w.heap.size + 1, 1, none⟩ = some (.int .i64 ta)) ∧ w'.cell? ⟨p2, ta.toNat, none⟩ = some (.slice UA2 L2 uc2) from
      ⟨box2_at (keep_fwd q HY2.out), by rw [q.cell (by have := HZ1.out; simp only; omega), HB1.out.cell h2l]; exact HC2.out⟩)
    go_wp2_with fail
    refine wp_region_z (fun w' => (w'.cell? ⟨w.heap.size + 1, 0, none⟩ = some (.int .i64 1) ∧ w'.cell? ⟨w.heap.size + 1, 1, none⟩ = some (.int .i64 ta)) ∧ w'.cell? ⟨p2, ta.toNat, none⟩ = some (.slice UA2 L2 uc2)) 12 (by kernel_rfl) (HKK.out _ b2.drew) (fun hH0 => ?_)
    refine wpZ_take 0 14 (u := ?_) rfl (by kernel_rfl) (fun _ _ _ h => h) ⟨by rfl, ?_⟩ hH0 ?_
    rotate_left
    · intro w hSw; (try dsimp only at hSw); go_simp; (first | done | with_reducible rfl)
    try simp only [Act.put, sb1, sb2, sb3]
    refine wpZ_take 1 14 (u := ?_) rfl (by kernel_rfl) (fun _ _ _ h => h) ⟨by rfl, ?_⟩ hH0 ?_
    rotate_left
    · intro w hSw; (try dsimp only at hSw); go_simp; (first | done | with_reducible rfl)
    try simp only [Act.put, sb1, sb2, sb3]
    refine wpZ_take 3 14 (u := ?_) rfl (by kernel_rfl) (fun _ _ _ h => h) ⟨by rfl, ?_⟩ hH0 ?_
    rotate_left
    · intro w hSw; (try dsimp only at hSw); go_simp; (first | done | with_reducible rfl)
    try simp only [Act.put, sb1, sb2, sb3]
    refine wpZ_take 4 14 (u := ?_) rfl (by kernel_rfl) (fun _ _ _ h => h) ⟨by rfl, ?_⟩ hH0 ?_
    rotate_left
    · intro w hSw; (try dsimp only at hSw); go_simp; (first | done | with_reducible rfl)
    try simp only [Act.put, sb1, sb2, sb3]
    refine wpZ_take 8 14 (u := ?_) rfl (by kernel_rfl) (fun _ _ _ h => h) ⟨by rfl, ?_⟩ hH0 ?_
    rotate_left
    · intro w hSw; (try dsimp only at hSw); go_simp; (first | done | with_reducible rfl)
    try simp only [Act.put, sb1, sb2, sb3]
    refine wpZ_only 2 rfl (by kernel_rfl) (by rfl) (fun K hK => ?_)
    go_simp
    go_at_call 91
    refine (HONt.out _ ((b2.drew.block g (by have := HZ1.out; omega)).trans (HB1.out.block g hgl))).mono ?_
    rintro e w3 ⟨rfl, hq3⟩
    have b3 : Below w1.heap.size w1 w3 := b2.drew.trans (hq3.mono b2.drew.size)
    go_wp2_with fail
    refine hK.out _ _ ?_ (fun hH1 => ?_)
    · exact HKK.out _ b3
    clear hK K hH0
    try simp only [Act.put, sb1, sb2, sb3]
    refine wpZ_only 5 rfl (by kernel_rfl) (by rfl) (fun K hK => ?_)
    go_simp
    go_at_call 91
    refine (HONt.out _ ((b3.block g (by have := HZ1.out; omega)).trans (HB1.out.block g hgl))).mono ?_
    rintro e w4 ⟨rfl, hq4⟩
    have b4 : Below w1.heap.size w1 w4 := b3.trans (hq4.mono b3.size)
    go_wp2_with fail
    refine hK.out _ _ ?_ (fun hH2 => ?_)
    · exact HKK.out _ b4
    clear hK K hH1
    try simp only [Act.put, sb1, sb2, sb3]
    refine wpZ_take 6 14 (u := ?_) rfl (by kernel_rfl) (fun _ _ _ h => h) ⟨by rfl, ?_⟩ hH2 ?_
    rotate_left
    · intro w hSw; (try dsimp only at hSw); go_simp; (first | done | with_reducible rfl)
    try simp only [Act.put, sb1, sb2, sb3]
    refine wpZ_take 7 14 (u := ?_) rfl (by kernel_rfl) (fun _ _ _ h => h) ⟨by rfl, ?_⟩ hH2 ?_
    rotate_left
    · intro w hSw; (try dsimp only at hSw); go_simp; (first | done | with_reducible rfl)
    try simp only [Act.put, sb1, sb2, sb3]
    refine wpZ_only 9 rfl (by kernel_rfl) (by rfl) (fun K hK => ?_)
    go_simp
    have b5 : Below w1.heap.size w1 (w4.alloc (.cells #[.slice UA2 L2 uc2, .slice UA1 L1 uc1] 33)) := b4.trans ((al1 w4 _).mono b4.size)
    refine hK.out _ _ ?_ (fun hH3 => ?_)
    · exact HKK.out _ b5
    clear hK K hH2
    try simp only [Act.put, sb1, sb2, sb3]
    refine wpZ_only 10 rfl (by kernel_rfl) (by rfl) (fun K hK => ?_)
    go_simp
    go_at_call 132
    refine (concat2_any w4.heap.size (.slice UA2 L2 uc2) (.slice UA1 L1 uc1) (m.on 1 ta) (m.on fb fa) w.heap.size (w4.alloc (.cells #[.slice UA2 L2 uc2, .slice UA1 L1 uc1] 33)) (Sl.below HU2.out (HB1.out.trans (b5.mono HB1.out.size)) (Nat.le_refl _)) (Sl.below HU1.out (HB1.out.trans (b5.mono HB1.out.size)) (Nat.le_refl _)) (by have := b4.size; have := HZ1.out; simp; omega) (box2_at (alloc_at_ w4 (.cells #[.slice UA2 L2 uc2, .slice UA1 L1 uc1] 33))).1 (box2_at (alloc_at_ w4 (.cells #[.slice UA2 L2 uc2, .slice UA1 L1 uc1] 33))).2 (by rw [HL2.out]; omega) (by rw [HL1.out]; omega)).mono ?_
    rintro e w6 ⟨r6, rfl, ho6, hq6⟩
    rw [← HZS.out] at ho6
    obtain ⟨RA, rc, rfl, -⟩ := id (ho6.sl (Nat.le_refl _))
    have b6 : Below w1.heap.size w1 w6 := b5.trans (hq6.mono b5.size)
    go_wp2_with fail
    refine hK.out _ _ ?_ (fun hH4 => ?_)
    · exact HKK.out _ b6
    clear hK K hH3
    try simp only [Act.put, sb1, sb2, sb3]
    refine wpZ_take 11 14 (u := ?_) rfl (by kernel_rfl) (fun _ _ _ h => h) ⟨by rfl, ?_⟩ hH4 ?_
    rotate_left
    · intro w hSw; (try dsimp only at hSw); go_simp; (first | done | with_reducible rfl)
    try simp only [Act.put, sb1, sb2, sb3]
    refine wpZ_last rfl (by kernel_rfl) (by kernel_rfl) (by rfl) (fun K hK => ?_)
    have ff : w6.frozen? ⟨p2, ta.toNat, none⟩ = false := by rw [b6.frozen (by have := HZ1.out; simp only; omega), HB1.out.frozen h2l]; exact HF2.out
    go_simp
    refine hK.out _ _ ?_
    clear hK K hH4
    have HO6 := Lib.hid ho6
    have HQ5 := Lib.hid b5.size
    have HW6 := Lib.hid (HB1.out.trans (b6.mono HB1.out.size))
    obtain ⟨S1, s1, ch4, hfin⟩ := HTWO.out (.slice RA zs.length rc) zs w6 (fun j => (w4.alloc (.cells #[.slice UA2 L2 uc2, .slice UA1 L1 uc1] 33)).heap.size ≤ j ∧ j < w6.heap.size) (rw_of_ow HO6.out) (fun j q q2 => by have q1 := HS.out j q2; have q3 := q.1; have := HQ5.out; have := HB1.out.size; omega) (fun j q => q.2) HW6.out
    have hg7 : (w6.setCell ⟨p2, ta.toNat, none⟩ (.slice RA zs.length rc)).heap[g]? = w.heap[g]? := (Below.heap_setCell _ _ _ _ (fun e => p2g (by simpa using e.symm))).trans (HW6.out.block g hgl)
    have hy7 : (w6.setCell ⟨p2, ta.toNat, none⟩ (.slice RA zs.length rc)).heap[w.heap.size]? = some (.cells #[.int .i64 fb, .int .i64 fa] 36) := (Below.heap_setCell _ _ _ _ (fun e => by simp at e; omega)).trans (keep_fwd b6 HY1.out)
    have hp7 : (w6.setCell ⟨p2, ta.toNat, none⟩ (.slice RA zs.length rc)).heap[p1]? = w.heap[p1]? := (Below.heap_setCell _ _ _ _ (fun e => p12 (by simpa using e))).trans (HW6.out.block p1 h1l)
    have hz7 : w.heap.size + 2 ≤ (w6.setCell ⟨p2, ta.toNat, none⟩ (.slice RA zs.length rc)).heap.size := by have := b6.size; have := HZ1.out; simp [World.setCell]; omega
    have hsz : (w6.setCell ⟨p2, ta.toNat, none⟩ (.slice RA zs.length rc)).heap.size = w6.heap.size := by simp [World.setCell]
    have HFIN := Lib.hid hfin
    have HG7 := Lib.hid hg7
    have HP7 := Lib.hid hp7
    have HSZ := Lib.hid hsz
    have HS1 := Lib.hid s1
    obtain ⟨c0, c1'⟩ := box2_at hy7
    have HY7 := Lib.hid hy7
    clear hfin hg7 hp7 hsz hy7 s1 ch4 r1 ff d0 d1 HKK b2 b3 b4 b5 b6 hq3 hq4 hq6 ho6
    generalize w6.setCell ⟨p2, ta.toNat, none⟩ (.slice RA zs.length rc) = w7 at *
    go_wp2_with fail
    refine (HONf.out _ HG7.out).mono ?_
    rintro e w8 ⟨rfl, hq8⟩
    have hp8 : w8.heap[p1]? = w.heap[p1]? := (hq8.block p1 (by omega)).trans HP7.out
    have r8 : w8.cell? ⟨p1, fa.toNat, none⟩ = some (.slice UA1 L1 uc1) := by have := HC1.out; simp only [World.cell?, hp8] at this ⊢; exact this
    have f8 : w8.frozen? ⟨p1, fa.toNat, none⟩ = false := by have := HF1.out; simp only [World.frozen?, hp8] at this ⊢; exact this
    obtain ⟨zz, bx, rw8, ch8⟩ := HFIN.out w8 hq8
    have HQ8 := Lib.hid hq8
    have HE := Lib.hid zz
    have HBX := Lib.hid bx
    have HRW := Lib.hid rw8
    have HCH := Lib.hid ch8
    clear hq8 hp8 zz bx rw8 ch8 c0 c1'
    go_wp2
    go_ret
    refine ⟨_, S1, (fun j => (S j ∨ ((w4.alloc (.cells #[.slice UA2 L2 uc2, .slice UA1 L1 uc1] 33)).heap.size ≤ j ∧ j < w6.heap.size)) ∧ ¬ S1 j), rfl, HRW.out, ?_, fun j q q2 => q2.2 q, fun j q => ?_, fun j q => ?_, HCH.out⟩
    · have e : joinL 1 (m.on fb fa) (m.on 1 ta) = zs := by rw [HZS.out]; simp [joinL]
      rw [e]
      exact HBX.out
    · have h1 := HE.out
      have h2 := HQ8.out.size
      have h3 := HSZ.out
      rcases q.1 with a | a
      · exact .inl a
      · exact .inr ⟨by have := a.1; have := HQ5.out; have := HB1.out.size; omega, by rw [h1]; have := a.2; omega⟩
    · have h1 := HE.out
      have h2 := HQ8.out.size
      have h3 := HSZ.out
      rcases HS1.out j q with a | a
      · exact .inl a
      · exact .inr ⟨by have := a.1; have := HQ5.out; have := HB1.out.size; omega, by rw [h1]; have := a.2; omega⟩
  · go_enter Tryz.func93, Tryz.ntmps93
    go_wp2_with fail
    have hbd := HB1.out
    have hy1 := HY1.out
    have hy2 := HY2.out
    have hz1 := HZ1.out
    clear HB1 HY1 HY2 HZ1
    generalize ((w.alloc (.cells #[.int .i64 fb, .int .i64 fa] 36)).alloc (.cells #[.int .i64 2, .int .i64 ta] 36)) = w1 at *
    have HB1 := Lib.hid hbd
    have HY1 := Lib.hid hy1
    have HY2 := Lib.hid hy2
    have HZ1 := Lib.hid hz1
    clear hbd hy1 hy2 hz1
    refine (HONf.out _ (HB1.out.block g hgl)).mono ?_
    rintro e w2 ⟨rfl, hq⟩
    have b2 : Below w1.heap.size w1 w2 := hq
    clear hq
    obtain ⟨c0, c1'⟩ := box2_at (keep_fwd b2 HY1.out)
    obtain ⟨d0, d1⟩ := box2_at (keep_fwd b2 HY2.out)
    have r1 : w2.cell? ⟨p1, fa.toNat, none⟩ = some (.slice UA1 L1 uc1) := by rw [b2.cell (by have := HZ1.out; simp only; omega), HB1.out.cell h1l]; exact HC1.out
    obtain ⟨zs, hzs⟩ : ∃ zs, zs = (m.on fb fa ++ m.on 2 ta) := ⟨_, rfl⟩
    have HZS := Lib.hid hzs
    clear hzs
    have HKK := Lib.hid (fun (w' : World) (q : Below w1.heap.size w1 w') => show (w'.cell? ⟨w.heap.size + 1, 0, none⟩ = some (.int .i64 2) ∧ w'.cell? ⟨w.heap.size + 1, 1, none⟩ = some (.int .i64 ta)) ∧ w'.cell? ⟨p2, ta.toNat, none⟩ = some (.slice UA2 L2 uc2) from
      ⟨box2_at (keep_fwd q HY2.out), by rw [q.cell (by have := HZ1.out; simp only; omega), HB1.out.cell h2l]; exact HC2.out⟩)
    go_wp2_with fail
    refine wp_region_z (fun w' => (w'.cell? ⟨w.heap.size + 1, 0, none⟩ = some (.int .i64 2) ∧ w'.cell? ⟨w.heap.size + 1, 1, none⟩ = some (.int .i64 ta)) ∧ w'.cell? ⟨p2, ta.toNat, none⟩ = some (.slice UA2 L2 uc2)) 12 (by kernel_rfl) (HKK.out _ b2.drew) (fun hH0 => ?_)
    refine wpZ_take 0 14 (u := ?_) rfl (by kernel_rfl) (fun _ _ _ h => h) ⟨by rfl, ?_⟩ hH0 ?_
    rotate_left
    · intro w hSw; (try dsimp only at hSw); go_simp; (first | done | with_reducible rfl)
    try simp only [Act.put, sb1, sb2, sb3]
    refine wpZ_take 1 14 (u := ?_) rfl (by kernel_rfl) (fun _ _ _ h => h) ⟨by rfl, ?_⟩ hH0 ?_
    rotate_left
    · intro w hSw; (try dsimp only at hSw); go_simp; (first | done | with_reducible rfl)
    try simp only [Act.put, sb1, sb2, sb3]
    refine wpZ_take 3 14 (u := ?_) rfl (by kernel_rfl) (fun _ _ _ h => h) ⟨by rfl, ?_⟩ hH0 ?_
    rotate_left
    · intro w hSw; (try dsimp only at hSw); go_simp; (first | done | with_reducible rfl)
    try simp only [Act.put, sb1, sb2, sb3]
    refine wpZ_take 4 14 (u := ?_) rfl (by kernel_rfl) (fun _ _ _ h => h) ⟨by rfl, ?_⟩ hH0 ?_
    rotate_left
    · intro w hSw; (try dsimp only at hSw); go_simp; (first | done | with_reducible rfl)
    try simp only [Act.put, sb1, sb2, sb3]
    refine wpZ_take 5 14 (u := ?_) rfl (by kernel_rfl) (fun _ _ _ h => h) ⟨by rfl, ?_⟩ hH0 ?_
    rotate_left
    · intro w hSw; (try dsimp only at hSw); go_simp; (first | done | with_reducible rfl)
    try simp only [Act.put, sb1, sb2, sb3]
    refine wpZ_only 2 rfl (by kernel_rfl) (by rfl) (fun K hK => ?_)
    go_simp
    go_at_call 91
    refine (HONt.out _ ((b2.drew.block g (by have := HZ1.out; omega)).trans (HB1.out.block g hgl))).mono ?_
    rintro e w3 ⟨rfl, hq3⟩
    have b3 : Below w1.heap.size w1 w3 := b2.drew.trans (hq3.mono b2.drew.size)
    go_wp2_with fail
    refine hK.out _ _ ?_ (fun hH1 => ?_)
    · exact HKK.out _ b3
    clear hK K hH0
    try simp only [Act.put, sb1, sb2, sb3]
    refine wpZ_only 6 rfl (by kernel_rfl) (by rfl) (fun K hK => ?_)
    go_simp
    go_at_call 91
    refine (HONt.out _ ((b3.block g (by have := HZ1.out; omega)).trans (HB1.out.block g hgl))).mono ?_
    rintro e w4 ⟨rfl, hq4⟩
    have b4 : Below w1.heap.size w1 w4 := b3.trans (hq4.mono b3.size)
    go_wp2_with fail
    refine hK.out _ _ ?_ (fun hH2 => ?_)
    · exact HKK.out _ b4
    clear hK K hH1
    try simp only [Act.put, sb1, sb2, sb3]
    refine wpZ_take 7 14 (u := ?_) rfl (by kernel_rfl) (fun _ _ _ h => h) ⟨by rfl, ?_⟩ hH2 ?_
    rotate_left
    · intro w hSw; (try dsimp only at hSw); go_simp; (first | done | with_reducible rfl)
    try simp only [Act.put, sb1, sb2, sb3]
    refine wpZ_take 8 14 (u := ?_) rfl (by kernel_rfl) (fun _ _ _ h => h) ⟨by rfl, ?_⟩ hH2 ?_
    rotate_left
    · intro w hSw; (try dsimp only at hSw); go_simp; (first | done | with_reducible rfl)
    try simp only [Act.put, sb1, sb2, sb3]
    refine wpZ_only 9 rfl (by kernel_rfl) (by rfl) (fun K hK => ?_)
    go_simp
    have b5 : Below w1.heap.size w1 (w4.alloc (.cells #[.slice UA1 L1 uc1, .slice UA2 L2 uc2] 33)) := b4.trans ((al1 w4 _).mono b4.size)
    refine hK.out _ _ ?_ (fun hH3 => ?_)
    · exact HKK.out _ b5
    clear hK K hH2
    try simp only [Act.put, sb1, sb2, sb3]
    refine wpZ_only 10 rfl (by kernel_rfl) (by rfl) (fun K hK => ?_)
    go_simp
    go_at_call 132
    refine (concat2_any w4.heap.size (.slice UA1 L1 uc1) (.slice UA2 L2 uc2) (m.on fb fa) (m.on 2 ta) w.heap.size (w4.alloc (.cells #[.slice UA1 L1 uc1, .slice UA2 L2 uc2] 33)) (Sl.below HU1.out (HB1.out.trans (b5.mono HB1.out.size)) (Nat.le_refl _)) (Sl.below HU2.out (HB1.out.trans (b5.mono HB1.out.size)) (Nat.le_refl _)) (by have := b4.size; have := HZ1.out; simp; omega) (box2_at (alloc_at_ w4 (.cells #[.slice UA1 L1 uc1, .slice UA2 L2 uc2] 33))).1 (box2_at (alloc_at_ w4 (.cells #[.slice UA1 L1 uc1, .slice UA2 L2 uc2] 33))).2 (by rw [HL1.out]; omega) (by rw [HL2.out]; omega)).mono ?_
    rintro e w6 ⟨r6, rfl, ho6, hq6⟩
    rw [← HZS.out] at ho6
    obtain ⟨RA, rc, rfl, -⟩ := id (ho6.sl (Nat.le_refl _))
    have b6 : Below w1.heap.size w1 w6 := b5.trans (hq6.mono b5.size)
    go_wp2_with fail
    refine hK.out _ _ ?_ (fun hH4 => ?_)
    · exact HKK.out _ b6
    clear hK K hH3
    try simp only [Act.put, sb1, sb2, sb3]
    refine wpZ_take 11 14 (u := ?_) rfl (by kernel_rfl) (fun _ _ _ h => h) ⟨by rfl, ?_⟩ hH4 ?_
    rotate_left
    · intro w hSw; (try dsimp only at hSw); go_simp; (first | done | with_reducible rfl)
    try simp only [Act.put, sb1, sb2, sb3]
    refine wpZ_last rfl (by kernel_rfl) (by kernel_rfl) (by rfl) (fun K hK => ?_)
    have ff : w6.frozen? ⟨p2, ta.toNat, none⟩ = false := by rw [b6.frozen (by have := HZ1.out; simp only; omega), HB1.out.frozen h2l]; exact HF2.out
    go_simp
    refine hK.out _ _ ?_
    clear hK K hH4
    have HO6 := Lib.hid ho6
    have HQ5 := Lib.hid b5.size
    have HW6 := Lib.hid (HB1.out.trans (b6.mono HB1.out.size))
    obtain ⟨S1, s1, ch4, hfin⟩ := HTWO.out (.slice RA zs.length rc) zs w6 (fun j => (w4.alloc (.cells #[.slice UA1 L1 uc1, .slice UA2 L2 uc2] 33)).heap.size ≤ j ∧ j < w6.heap.size) (rw_of_ow HO6.out) (fun j q q2 => by have q1 := HS.out j q2; have q3 := q.1; have := HQ5.out; have := HB1.out.size; omega) (fun j q => q.2) HW6.out
    have hg7 : (w6.setCell ⟨p2, ta.toNat, none⟩ (.slice RA zs.length rc)).heap[g]? = w.heap[g]? := (Below.heap_setCell _ _ _ _ (fun e => p2g (by simpa using e.symm))).trans (HW6.out.block g hgl)
    have hy7 : (w6.setCell ⟨p2, ta.toNat, none⟩ (.slice RA zs.length rc)).heap[w.heap.size]? = some (.cells #[.int .i64 fb, .int .i64 fa] 36) := (Below.heap_setCell _ _ _ _ (fun e => by simp at e; omega)).trans (keep_fwd b6 HY1.out)
    have hp7 : (w6.setCell ⟨p2, ta.toNat, none⟩ (.slice RA zs.length rc)).heap[p1]? = w.heap[p1]? := (Below.heap_setCell _ _ _ _ (fun e => p12 (by simpa using e))).trans (HW6.out.block p1 h1l)
    have hz7 : w.heap.size + 2 ≤ (w6.setCell ⟨p2, ta.toNat, none⟩ (.slice RA zs.length rc)).heap.size := by have := b6.size; have := HZ1.out; simp [World.setCell]; omega
    have hsz : (w6.setCell ⟨p2, ta.toNat, none⟩ (.slice RA zs.length rc)).heap.size = w6.heap.size := by simp [World.setCell]
    have HFIN := Lib.hid hfin
    have HG7 := Lib.hid hg7
    have HP7 := Lib.hid hp7
    have HSZ := Lib.hid hsz
    have HS1 := Lib.hid s1
    obtain ⟨c0, c1'⟩ := box2_at hy7
    have HY7 := Lib.hid hy7
    clear hfin hg7 hp7 hsz hy7 s1 ch4 r1 ff d0 d1 HKK b2 b3 b4 b5 b6 hq3 hq4 hq6 ho6
    generalize w6.setCell ⟨p2, ta.toNat, none⟩ (.slice RA zs.length rc) = w7 at *
    go_wp2_with fail
    refine (HONf.out _ HG7.out).mono ?_
    rintro e w8 ⟨rfl, hq8⟩
    have hp8 : w8.heap[p1]? = w.heap[p1]? := (hq8.block p1 (by omega)).trans HP7.out
    have r8 : w8.cell? ⟨p1, fa.toNat, none⟩ = some (.slice UA1 L1 uc1) := by have := HC1.out; simp only [World.cell?, hp8] at this ⊢; exact this
    have f8 : w8.frozen? ⟨p1, fa.toNat, none⟩ = false := by have := HF1.out; simp only [World.frozen?, hp8] at this ⊢; exact this
    obtain ⟨zz, bx, rw8, ch8⟩ := HFIN.out w8 hq8
    have HQ8 := Lib.hid hq8
    have HE := Lib.hid zz
    have HBX := Lib.hid bx
    have HRW := Lib.hid rw8
    have HCH := Lib.hid ch8
    clear hq8 hp8 zz bx rw8 ch8 c0 c1'
    go_wp2
    go_ret
    refine ⟨_, S1, (fun j => (S j ∨ ((w4.alloc (.cells #[.slice UA1 L1 uc1, .slice UA2 L2 uc2] 33)).heap.size ≤ j ∧ j < w6.heap.size)) ∧ ¬ S1 j), rfl, HRW.out, ?_, fun j q q2 => q2.2 q, fun j q => ?_, fun j q => ?_, HCH.out⟩
    · have e : joinL 2 (m.on fb fa) (m.on 2 ta) = zs := by rw [HZS.out]; simp [joinL]
      rw [e]
      exact HBX.out
    · have h1 := HE.out
      have h2 := HQ8.out.size
      have h3 := HSZ.out
      rcases q.1 with a | a
      · exact .inl a
      · exact .inr ⟨by have := a.1; have := HQ5.out; have := HB1.out.size; omega, by rw [h1]; have := a.2; omega⟩
    · have h1 := HE.out
      have h2 := HQ8.out.size
      have h3 := HSZ.out
      rcases HS1.out j q with a | a
      · exact .inl a
      · exact .inr ⟨by have := a.1; have := HQ5.out; have := HB1.out.size; omega, by rw [h1]; have := a.2; omega⟩
end Go.Proofs.YtgmppfhokfifgaaGreatDoor
/-
  Contract: the program's loop (on a machine in a box). Printed by gen_lop.py.
-/
namespace Go.Proofs.YtgmppfhokfifgaaGreatDoor
set_option maxRecDepth 10000
open Go.RowKit

theorem owr_formS {e : TypeId} {size : Nat} {w : World} {lo hi : Nat} {v : Value} {n : Nat} {us : List Value} (h : OwR e size w lo hi v (n + 1) us) : ∃ A c, v = .slice A (n + 1) c := by
  rcases h.form with ⟨-, h0, -⟩ | ⟨q, cap, e, -⟩
  · omega
  · exact ⟨_, cap, e⟩
set_option maxRecDepth 100000 in
set_option maxHeartbeats 6400000 in
theorem loop_any {w : World} {S Sp : Nat → Prop} {g : Nat} {m : Mac} {o ps : List Int} {pv : Value} (h : OwBox w S g m) (hS : ∀ j, S j → j < w.heap.size) (hb : gi o 2 = 1 ∨ gi o 2 = 2) (h0 : 0 ≤ gi o 3) (hk : (gi o 3).toNat < (m.sd (gi o 2)).length) (hlp : m.lp.length ≤ 300) (hrl : (m.mine o).length ≤ 4) (hps : (rw_ pv ps).p w Sp) (hSp : ∀ j, Sp j → j < w.heap.size) (hd : ∀ j, Sp j → ¬ S j) (hpl : ps.length ≤ 100) :
    Calls Tryz.prog 92 #[.pointer (some ⟨g, 0, none⟩), op8 o, pv] w fun e w' => e = .returned (.tuple #[]) ∧ OwBox w' (Now S w w') g (m.looped o ps) ∧ ChgS S w w' := by
  obtain ⟨f, b, c, l, d, p, n, cap, u, S2, hx, hs, kn, hc, hf, hr, s2, ns2, sp, sg, ns2g, pg, put⟩ := h.row (gi o 2) (gi o 3).toNat hk hS
  rw [Int.toNat_of_nonneg h0] at put
  have hgl := heap_lt hx
  have hpl2 := hS p sp
  have hsl := rw_sl hr fun j q => hS j (s2 j q)
  obtain ⟨UA, uc, rfl, -⟩ := id hsl
  have hlv : ∃ LA lc, l = .slice LA m.lp.length lc := by
    obtain ⟨f', b', c', l', d', hx', hm', -⟩ := h.rd hS
    obtain ⟨lA, lc, rfl, -⟩ := id hm'.lp
    rw [hx] at hx'
    simp only [Option.some.injEq, Obj.cells.injEq, Array.mk.injEq, List.cons.injEq] at hx'
    exact ⟨lA, lc, hx'.1.2.2.2.2.2.1⟩
  obtain ⟨LA, lc, rfl⟩ := hlv
  have hpsl := rw_sl hps hSp
  obtain ⟨PA, pc, rfl, -⟩ := id hpsl
  have hrow : (m.on (gi o 2) (gi o 3)).length ≤ 4 := hrl
  have HON : Hid (∀ W : World, W.heap[g]? = w.heap[g]? → Calls Tryz.prog 91 #[.pointer (some ⟨g, 0, none⟩), .agg #[.int .i64 (gi o 2), .int .i64 (gi o 3)]] W fun e w2 => e = .returned (.pointer (some ⟨p, (gi o 3).toNat, none⟩)) ∧ Below W.heap.size W w2) := Lib.hid fun W q => by
    have := on_any (w := W) (q.trans hx) hb (show gi o 3 = ((gi o 3).toNat : Int) from (Int.toNat_of_nonneg h0).symm) kn hs
    simpa using this
  have HX := Lib.hid hx
  have HC := Lib.hid hc
  have HFZ := Lib.hid hf
  have HPUT := Lib.hid put
  have HS := Lib.hid hS
  have HR : Hid (OwR 2 1 w 0 w.heap.size (.slice UA (m.on (gi o 2) (gi o 3)).length uc) (m.on (gi o 2) (gi o 3)).length (vals (m.on (gi o 2) (gi o 3)))) := Lib.hid ⟨hr.1, fun j q => hS j (s2 j (hr.2 j q))⟩
  have HUO := Lib.hid (fun j (q : (Value.slice UA (m.on (gi o 2) (gi o 3)).length uc).ownBlock = some j) => hr.2 j q)
  have HS2 := Lib.hid s2
  have HNS := Lib.hid (And.intro ns2 ns2g)
  have HSG := Lib.hid (And.intro sg sp)
  have HPS := Lib.hid hps
  have HSP := Lib.hid (And.intro hSp hd)
  have HPG := Lib.hid pg
  have HB1 := Lib.hid (al1 w (.cells #[.int .i64 (gi o 0), .int .i64 (gi o 1), .int .i64 (gi o 2), .int .i64 (gi o 3), .int .i64 (gi o 4), .int .i64 (gi o 5), .int .i64 (gi o 6), .int .i64 (gi o 7)] 38))
  have HY1 := Lib.hid (alloc_at_ w (.cells #[.int .i64 (gi o 0), .int .i64 (gi o 1), .int .i64 (gi o 2), .int .i64 (gi o 3), .int .i64 (gi o 4), .int .i64 (gi o 5), .int .i64 (gi o 6), .int .i64 (gi o 7)] 38))
  have HZ1 : Hid ((w.alloc (.cells #[.int .i64 (gi o 0), .int .i64 (gi o 1), .int .i64 (gi o 2), .int .i64 (gi o 3), .int .i64 (gi o 4), .int .i64 (gi o 5), .int .i64 (gi o 6), .int .i64 (gi o 7)] 38)).heap.size = w.heap.size + 1) := Lib.hid (by simp)
  clear h hS hx put hc hf hr s2 ns2 ns2g sp sg hps hSp hd pg hsl hpsl hs kn hk hb h0 hrl
  unfold op8
  go_enter Tryz.func92, Tryz.ntmps92
  go_wp2_with fail
  have hbd := HB1.out
  have hy1 := HY1.out
  have hz1 := HZ1.out
  clear HB1 HY1 HZ1
  generalize w.alloc (.cells #[.int .i64 (gi o 0), .int .i64 (gi o 1), .int .i64 (gi o 2), .int .i64 (gi o 3), .int .i64 (gi o 4), .int .i64 (gi o 5), .int .i64 (gi o 6), .int .i64 (gi o 7)] 38) = w1 at *
  have HB1 := Lib.hid hbd
  have HY1 := Lib.hid hy1
  have HZ1 := Lib.hid hz1
  clear hbd hy1 hz1
  refine (HON.out _ (HB1.out.block g hgl)).mono ?_
  rintro e w2 ⟨rfl, hq⟩
  have b2 : Below w1.heap.size w1 w2 := hq
  clear hq
  have HW2 := Lib.hid (HB1.out.trans (b2.mono HB1.out.size))
  have HKK := Lib.hid (fun (w' : World) (q : Below w.heap.size w w') => show w'.cell? ⟨p, (gi o 3).toNat, none⟩ = some (.slice UA (m.on (gi o 2) (gi o 3)).length uc) ∧ w'.cell? ⟨g, 5, none⟩ = some (.slice LA m.lp.length lc) from
    ⟨by rw [q.cell hpl2]; exact HC.out, by rw [q.cell hgl]; exact (box7 HX.out).1.2.2.2.2.2.1⟩)
  go_wp2_with fail
  refine wp_region_z (fun w' => w'.cell? ⟨p, (gi o 3).toNat, none⟩ = some (.slice UA (m.on (gi o 2) (gi o 3)).length uc) ∧ w'.cell? ⟨g, 5, none⟩ = some (.slice LA m.lp.length lc)) 12 (by kernel_rfl) (HKK.out _ HW2.out.drew) (fun hH0 => ?_)
  refine wpZ_take 0 14 (u := ?_) rfl (by kernel_rfl) (fun _ _ _ h => h) ⟨by rfl, ?_⟩ hH0 ?_
  rotate_left
  · intro w hSw; (try dsimp only at hSw); go_simp; (first | done | with_reducible rfl)
  try simp only [Act.put, sb1, sb2, sb3]
  refine wpZ_take 1 14 (u := ?_) rfl (by kernel_rfl) (fun _ _ _ h => h) ⟨by rfl, ?_⟩ hH0 ?_
  rotate_left
  · intro w hSw; (try dsimp only at hSw); go_simp; (first | done | with_reducible rfl)
  try simp only [Act.put, sb1, sb2, sb3]
  refine wpZ_take 2 14 (u := ?_) rfl (by kernel_rfl) (fun _ _ _ h => h) ⟨by rfl, ?_⟩ hH0 ?_
  rotate_left
  · intro w hSw; (try dsimp only at hSw); go_simp; (first | done | with_reducible rfl)
  try simp only [Act.put, sb1, sb2, sb3]
  refine wpZ_take 3 14 (u := ?_) rfl (by kernel_rfl) (fun _ _ _ h => h) ⟨by rfl, ?_⟩ hH0 ?_
  rotate_left
  · intro w hSw; (try dsimp only at hSw); go_simp; (first | done | with_reducible rfl)
  try simp only [Act.put, sb1, sb2, sb3]
  refine wpZ_take 4 14 (u := ?_) rfl (by kernel_rfl) (fun _ _ _ h => h) ⟨by rfl, ?_⟩ hH0 ?_
  rotate_left
  · intro w hSw; (try dsimp only at hSw); go_simp; (first | done | with_reducible rfl)
  try simp only [Act.put, sb1, sb2, sb3]
  refine wpZ_take 5 14 (u := ?_) rfl (by kernel_rfl) (fun _ _ _ h => h) ⟨by rfl, ?_⟩ hH0 ?_
  rotate_left
  · intro w hSw; (try dsimp only at hSw); go_simp; (first | done | with_reducible rfl)
  try simp only [Act.put, sb1, sb2, sb3]
  refine wpZ_take 6 14 (u := ?_) rfl (by kernel_rfl) (fun _ _ _ h => h) ⟨by rfl, ?_⟩ hH0 ?_
  rotate_left
  · intro w hSw; (try dsimp only at hSw); go_simp; (first | done | with_reducible rfl)
  try simp only [Act.put, sb1, sb2, sb3]
  refine wpZ_take 7 14 (u := ?_) rfl (by kernel_rfl) (fun _ _ _ h => h) ⟨by rfl, ?_⟩ hH0 ?_
  rotate_left
  · intro w hSw; (try dsimp only at hSw); go_simp; (first | done | with_reducible rfl)
  try simp only [Act.put, sb1, sb2, sb3]
  refine wpZ_take 8 14 (u := ?_) rfl (by kernel_rfl) (fun _ _ _ h => h) ⟨by rfl, ?_⟩ hH0 ?_
  rotate_left
  · intro w hSw; (try dsimp only at hSw); go_simp; (first | done | with_reducible rfl)
  try simp only [Act.put, sb1, sb2, sb3]
  refine wpZ_only 9 rfl (by kernel_rfl) (by rfl) (fun K hK => ?_)
  go_simp
  have b3 : Below w.heap.size w (w2.alloc (.cells #[.int .i64 m.lp.length] 2)).drew := (HW2.out.trans ((al1 w2 _).mono HW2.out.size)).drew
  refine hK.out _ _ ?_ (fun hH1 => ?_)
  · exact HKK.out _ b3
  clear hK K hH0
  try simp only [Act.put, sb1, sb2, sb3]
  refine wpZ_only 10 rfl (by kernel_rfl) (by rfl) (fun K hK => ?_)
  refine op_append_elem Tryz.underlying33 i64_info rfl (by decide) (by decide) _ _ rfl _ 0 w.heap.size w2.heap.size (.slice UA (m.on (gi o 2) (gi o 3)).length uc) (m.on (gi o 2) (gi o 3)).length (vals (m.on (gi o 2) (gi o 3))) [.int .i64 m.lp.length] 2 rfl rfl (alloc_at_ w2 _) (HR.out.below b3 (Nat.le_refl _)) (Nat.zero_le _) (by omega) rfl (by simp [Value.oneCell']) ?_
  intro v4 w4 hv4 hg4 hl4
  obtain ⟨A4, c4, rfl⟩ := owr_formS hv4
  have hz3 := b3.size
  have hz3w : w1.heap.size ≤ (w2.alloc (.cells #[.int .i64 m.lp.length] 2)).drew.heap.size := Nat.le_trans b2.size (al1 w2 (.cells #[.int .i64 m.lp.length] 2)).size
  have k1 : w4.cell? ⟨g, 5, none⟩ = some (.slice LA m.lp.length lc) := by
    have e := (hg4.block g (by omega) (fun e => HNS.out.2 (HUO.out g e.symm))).trans (b3.block g hgl)
    have := (box7 (e.trans HX.out)).1.2.2.2.2.2.1
    exact this
  have e4 := (hg4.block p (by omega) (fun e => HNS.out.1 (HUO.out p e.symm))).trans (b3.block p hpl2)
  have k2 : w4.cell? ⟨p, (gi o 3).toNat, none⟩ = some (.slice UA (m.on (gi o 2) (gi o 3)).length uc) := by have := HC.out; simp only [World.cell?, e4] at this ⊢; exact this
  refine hK.out _ _ ?_ (fun hH2 => ?_)
  · exact ⟨k2, k1⟩
  clear hK K hH1
  try simp only [Act.put, sb1, sb2, sb3]
  refine wpZ_take 11 14 (u := ?_) rfl (by kernel_rfl) (fun _ _ _ h => h) ⟨by rfl, ?_⟩ hH2 ?_
  rotate_left
  · intro w hSw; (try dsimp only at hSw); go_simp; (first | done | with_reducible rfl)
  try simp only [Act.put, sb1, sb2, sb3]
  refine wpZ_last rfl (by kernel_rfl) (by kernel_rfl) (by rfl) (fun K hK => ?_)
  have ff : w4.frozen? ⟨p, (gi o 3).toNat, none⟩ = false := by have := HFZ.out; simp only [World.frozen?, e4] at this ⊢; exact this
  go_simp
  refine hK.out _ _ ?_
  clear hK K hH2
  have hch4 : ChgS (fun j => S j) w w4 := ⟨hg4.os.trans b3.os, hg4.tape.trans b3.tape, hg4.output.trans b3.output, Nat.le_trans b3.size hg4.size, fun j hj hn => (hg4.block j (by omega) (fun e => hn (HS2.out j (HUO.out j e.symm)))).trans (b3.block j hj)⟩
  have hP := HPUT.out (.slice A4 ((m.on (gi o 2) (gi o 3)).length + 1) c4) (m.on (gi o 2) (gi o 3) ++ [m.n]) w4 (fun j => (Value.slice A4 ((m.on (gi o 2) (gi o 3)).length + 1) c4).ownBlock = some j)
    ⟨by have := hv4.1; simpa [vals, Mac.n] using this, fun j q => q⟩
    (fun j q q2 => by
      rcases hl4 with e | e
      · exact HUO.out j (by rw [← e]; exact q)
      · have h1 := e j q
        have h2 := HS.out j q2
        omega)
    ⟨hg4.os.trans b3.os, hg4.tape.trans b3.tape, hg4.output.trans b3.output, Nat.le_trans b3.size hg4.size, fun j hj hn => (hg4.block j (by omega) (fun e => hn (HUO.out j e.symm))).trans (b3.block j hj)⟩
  have hz5 : (w4.setCell ⟨p, (gi o 3).toNat, none⟩ (.slice A4 ((m.on (gi o 2) (gi o 3)).length + 1) c4)).heap.size = w4.heap.size := by simp [World.setCell]
  have hz4 : w2.heap.size ≤ w4.heap.size := Nat.le_trans (al1 w2 (.cells #[.int .i64 m.lp.length] 2)).size hg4.size
  have hch5 : ChgS S w (w4.setCell ⟨p, (gi o 3).toNat, none⟩ (.slice A4 ((m.on (gi o 2) (gi o 3)).length + 1) c4)) := ChgS.setC hch4 _ HSG.out.2
  have hy4 : w4.heap[w.heap.size]? = some (.cells #[.int .i64 (gi o 0), .int .i64 (gi o 1), .int .i64 (gi o 2), .int .i64 (gi o 3), .int .i64 (gi o 4), .int .i64 (gi o 5), .int .i64 (gi o 6), .int .i64 (gi o 7)] 38) := (hg4.block w.heap.size (by have := HZ1.out; omega) (fun e => absurd (HS.out _ (HS2.out _ (HUO.out _ e.symm))) (by omega))).trans ((Below.heap_alloc _ _ _ (by have := HZ1.out; have := b2.size; show w.heap.size < w2.heap.size; omega)).trans (keep_fwd b2 HY1.out))
  have hy5 : (w4.setCell ⟨p, (gi o 3).toNat, none⟩ (.slice A4 ((m.on (gi o 2) (gi o 3)).length + 1) c4)).heap[w.heap.size]? = some (.cells #[.int .i64 (gi o 0), .int .i64 (gi o 1), .int .i64 (gi o 2), .int .i64 (gi o 3), .int .i64 (gi o 4), .int .i64 (gi o 5), .int .i64 (gi o 6), .int .i64 (gi o 7)] 38) := (Below.heap_setCell _ _ _ _ (fun e => by simp at e; omega)).trans hy4
  have hown : ∀ j, (Value.slice A4 ((m.on (gi o 2) (gi o 3)).length + 1) c4).ownBlock = some j → S j ∨ (w1.heap.size ≤ j ∧ j < w4.heap.size) := fun j q => by
    have h1 := (hv4.1.lt j q).2
    rcases hl4 with e | e
    · exact .inl (HS2.out j (HUO.out j (by rw [← e]; exact q)))
    · exact .inr ⟨by have := e j q; omega, h1⟩
  generalize w4.setCell ⟨p, (gi o 3).toNat, none⟩ (.slice A4 ((m.on (gi o 2) (gi o 3)).length + 1) c4) = w5 at *
  have h5 : OwBox w5 (fun j => S j ∨ (w1.heap.size ≤ j ∧ j < w5.heap.size)) g (m.put (gi o 2) (gi o 3) (m.on (gi o 2) (gi o 3) ++ [m.n])) := hP.mono fun j q => by
    rcases q with q | q
    · exact .inl q
    · rcases hown j q with a | a
      · exact .inl a
      · exact .inr ⟨a.1, by omega⟩
  have hz15 : w.heap.size + 1 ≤ w5.heap.size := by have := HZ1.out; have := b2.size; omega
  have hS5 : ∀ j, (S j ∨ (w1.heap.size ≤ j ∧ j < w5.heap.size)) → j < w5.heap.size := fun j q => by
    rcases q with q | q
    · have := HS.out j q; omega
    · exact q.2
  have HNOT : Hid (¬ (S w.heap.size ∨ (w1.heap.size ≤ w.heap.size ∧ w.heap.size < w5.heap.size))) := Lib.hid (fun q => by
    rcases q with q | q
    · exact absurd (HS.out _ q) (by omega)
    · have := HZ1.out; omega)
  have HC5 := Lib.hid hch5
  have HY5 := Lib.hid hy5
  have hps5 : (rw_ (.slice PA ps.length pc) ps).p w5 Sp := rw_keep HPS.out fun j q => HC5.out.block j (HSP.out.1 j q) (HSP.out.2 j q)
  have HSL5 := Lib.hid (rw_sl hps5 (B := w.heap.size) HSP.out.1)
  have elp : (m.put (gi o 2) (gi o 3) (m.on (gi o 2) (gi o 3) ++ [m.n])).lp = m.lp := (put_parts _ _ _ _).2.2.2.1
  obtain ⟨qf, qb, qc, ql, qd, vs, hx5, sg5, hl5, hlo5, put5⟩ := h5.push hS5
  rw [elp] at hl5 put5
  obtain ⟨AL, cl, rfl⟩ : ∃ AL cl, ql = .slice AL m.lp.length cl := by
    rcases hl5.form with ⟨rfl, h0, -⟩ | ⟨q, cap, rfl, -⟩
    · exact ⟨none, 0, by rw [h0]⟩
    · exact ⟨_, cap, rfl⟩
  have HX5 := Lib.hid hx5
  have HL5 := Lib.hid hl5
  have HLO5 := Lib.hid hlo5
  have HPUT5 := Lib.hid put5
  have HS5 := Lib.hid hS5
  have HSG5 := Lib.hid sg5
  have ELP := Lib.hid elp
  have hgl5 := heap_lt hx5
  clear hP hch4 hch5 hy4 hy5 hown hps5 h5 hx5 hl5 hlo5 put5 hS5 elp sg5 b3 hv4 hg4 hl4 k1 k2 e4 ff hz3 hz4 hz5 HKK HW2 HPUT HR HUO HS2 HNS HC HFZ
  have HK5 := Lib.hid (fun (w' : World) (q : Below w5.heap.size w5 w') => show (w'.cell? ⟨w.heap.size, 0, none⟩ = some (.int .i64 (gi o 0)) ∧ w'.cell? ⟨w.heap.size, 1, none⟩ = some (.int .i64 (gi o 1)) ∧ w'.cell? ⟨w.heap.size, 2, none⟩ = some (.int .i64 (gi o 2)) ∧ w'.cell? ⟨w.heap.size, 3, none⟩ = some (.int .i64 (gi o 3)) ∧ w'.cell? ⟨w.heap.size, 6, none⟩ = some (.int .i64 (gi o 6))) ∧ w'.cell? ⟨g, 5, none⟩ = some (.slice AL m.lp.length cl) from
    ⟨⟨(box8 (keep_fwd q HY5.out)).1.1, (box8 (keep_fwd q HY5.out)).1.2.1, (box8 (keep_fwd q HY5.out)).1.2.2.1, (box8 (keep_fwd q HY5.out)).1.2.2.2.1, (box8 (keep_fwd q HY5.out)).1.2.2.2.2.2.2.1⟩, (box7 (keep_fwd q HX5.out)).1.2.2.2.2.2.1⟩)
  go_wp2_with fail
  refine wp_region_z (fun w' => (w'.cell? ⟨w.heap.size, 0, none⟩ = some (.int .i64 (gi o 0)) ∧ w'.cell? ⟨w.heap.size, 1, none⟩ = some (.int .i64 (gi o 1)) ∧ w'.cell? ⟨w.heap.size, 2, none⟩ = some (.int .i64 (gi o 2)) ∧ w'.cell? ⟨w.heap.size, 3, none⟩ = some (.int .i64 (gi o 3)) ∧ w'.cell? ⟨w.heap.size, 6, none⟩ = some (.int .i64 (gi o 6))) ∧ w'.cell? ⟨g, 5, none⟩ = some (.slice AL m.lp.length cl)) 24 (by kernel_rfl) (HK5.out _ (Below.refl _ _).drew) (fun hH0 => ?_)
  refine wpZ_take 0 26 (u := ?_) rfl (by kernel_rfl) (fun _ _ _ h => h) ⟨by rfl, ?_⟩ hH0 ?_
  rotate_left
  · intro w hSw; (try dsimp only at hSw); go_simp; (first | done | with_reducible rfl)
  try simp only [Act.put, sb1, sb2, sb3]
  refine wpZ_take 1 26 (u := ?_) rfl (by kernel_rfl) (fun _ _ _ h => h) ⟨by rfl, ?_⟩ hH0 ?_
  rotate_left
  · intro w hSw; (try dsimp only at hSw); go_simp; (first | done | with_reducible rfl)
  try simp only [Act.put, sb1, sb2, sb3]
  refine wpZ_take 2 26 (u := ?_) rfl (by kernel_rfl) (fun _ _ _ h => h) ⟨by rfl, ?_⟩ hH0 ?_
  rotate_left
  · intro w hSw; (try dsimp only at hSw); go_simp; (first | done | with_reducible rfl)
  try simp only [Act.put, sb1, sb2, sb3]
  refine wpZ_take 3 26 (u := ?_) rfl (by kernel_rfl) (fun _ _ _ h => h) ⟨by rfl, ?_⟩ hH0 ?_
  rotate_left
  · intro w hSw; (try dsimp only at hSw); go_simp; (first | done | with_reducible rfl)
  try simp only [Act.put, sb1, sb2, sb3]
  refine wpZ_take 4 26 (u := ?_) rfl (by kernel_rfl) (fun _ _ _ h => h) ⟨by rfl, ?_⟩ hH0 ?_
  rotate_left
  · intro w hSw; (try dsimp only at hSw); go_simp; (first | done | with_reducible rfl)
  try simp only [Act.put, sb1, sb2, sb3]
  refine wpZ_take 5 26 (u := ?_) rfl (by kernel_rfl) (fun _ _ _ h => h) ⟨by rfl, ?_⟩ hH0 ?_
  rotate_left
  · intro w hSw; (try dsimp only at hSw); go_simp; (first | done | with_reducible rfl)
  try simp only [Act.put, sb1, sb2, sb3]
  refine wpZ_take 6 26 (u := ?_) rfl (by kernel_rfl) (fun _ _ _ h => h) ⟨by rfl, ?_⟩ hH0 ?_
  rotate_left
  · intro w hSw; (try dsimp only at hSw); go_simp; (first | done | with_reducible rfl)
  try simp only [Act.put, sb1, sb2, sb3]
  refine wpZ_take 7 26 (u := ?_) rfl (by kernel_rfl) (fun _ _ _ h => h) ⟨by rfl, ?_⟩ hH0 ?_
  rotate_left
  · intro w hSw; (try dsimp only at hSw); go_simp; (first | done | with_reducible rfl)
  try simp only [Act.put, sb1, sb2, sb3]
  refine wpZ_take 8 26 (u := ?_) rfl (by kernel_rfl) (fun _ _ _ h => h) ⟨by rfl, ?_⟩ hH0 ?_
  rotate_left
  · intro w hSw; (try dsimp only at hSw); go_simp; (first | done | with_reducible rfl)
  try simp only [Act.put, sb1, sb2, sb3]
  refine wpZ_take 9 26 (u := ?_) rfl (by kernel_rfl) (fun _ _ _ h => h) ⟨by rfl, ?_⟩ hH0 ?_
  rotate_left
  · intro w hSw; (try dsimp only at hSw); go_simp; (first | done | with_reducible rfl)
  try simp only [Act.put, sb1, sb2, sb3]
  refine wpZ_take 10 26 (u := ?_) rfl (by kernel_rfl) (fun _ _ _ h => h) ⟨by rfl, ?_⟩ hH0 ?_
  rotate_left
  · intro w hSw; (try dsimp only at hSw); go_simp; (first | done | with_reducible rfl)
  try simp only [Act.put, sb1, sb2, sb3]
  refine wpZ_take 11 26 (u := ?_) rfl (by kernel_rfl) (fun _ _ _ h => h) ⟨by rfl, ?_⟩ hH0 ?_
  rotate_left
  · intro w hSw; (try dsimp only at hSw); go_simp; (first | done | with_reducible rfl)
  try simp only [Act.put, sb1, sb2, sb3]
  refine wpZ_take 12 26 (u := ?_) rfl (by kernel_rfl) (fun _ _ _ h => h) ⟨by rfl, ?_⟩ hH0 ?_
  rotate_left
  · intro w hSw; (try dsimp only at hSw); go_simp; (first | done | with_reducible rfl)
  try simp only [Act.put, sb1, sb2, sb3]
  refine wpZ_take 13 26 (u := ?_) rfl (by kernel_rfl) (fun _ _ _ h => h) ⟨by rfl, ?_⟩ hH0 ?_
  rotate_left
  · intro w hSw; (try dsimp only at hSw); go_simp; (first | done | with_reducible rfl)
  try simp only [Act.put, sb1, sb2, sb3]
  refine wpZ_take 14 26 (u := ?_) rfl (by kernel_rfl) (fun _ _ _ h => h) ⟨by rfl, ?_⟩ hH0 ?_
  rotate_left
  · intro w hSw; (try dsimp only at hSw); go_simp; (first | done | with_reducible rfl)
  try simp only [Act.put, sb1, sb2, sb3]
  refine wpZ_take 15 26 (u := ?_) rfl (by kernel_rfl) (fun _ _ _ h => h) ⟨by rfl, ?_⟩ hH0 ?_
  rotate_left
  · intro w hSw; (try dsimp only at hSw); go_simp; (first | done | with_reducible rfl)
  try simp only [Act.put, sb1, sb2, sb3]
  refine wpZ_take 16 26 (u := ?_) rfl (by kernel_rfl) (fun _ _ _ h => h) ⟨by rfl, ?_⟩ hH0 ?_
  rotate_left
  · intro w hSw; (try dsimp only at hSw); go_simp; (first | done | with_reducible rfl)
  try simp only [Act.put, sb1, sb2, sb3]
  refine wpZ_take 17 26 (u := ?_) rfl (by kernel_rfl) (fun _ _ _ h => h) ⟨by rfl, ?_⟩ hH0 ?_
  rotate_left
  · intro w hSw; (try dsimp only at hSw); go_simp; (first | done | with_reducible rfl)
  try simp only [Act.put, sb1, sb2, sb3]
  refine wpZ_only 18 rfl (by kernel_rfl) (by rfl) (fun K hK => ?_)
  go_simp
  go_at_call 131
  refine (cloneInts_any _ ps w.heap.size _ (Sl.below HSL5.out (Below.refl w5.heap.size w5).drew (by omega)) (show w.heap.size ≤ w5.heap.size by omega) (by omega)).mono ?_
  rintro e w6 ⟨r6, rfl, ho6, hq6⟩
  obtain ⟨RA, rc, rfl, -⟩ := id (ho6.sl (Nat.le_refl _))
  have b6 : Below w5.heap.size w5 w6 := Below.trans (Below.refl _ _).drew (hq6.mono (Nat.le_refl _))
  go_wp2_with fail
  refine hK.out _ _ ?_ (fun hH1 => ?_)
  · exact HK5.out _ b6
  clear hK K hH0
  try simp only [Act.put, sb1, sb2, sb3]
  refine wpZ_take 19 26 (u := ?_) rfl (by kernel_rfl) (fun _ _ _ h => h) ⟨by rfl, ?_⟩ hH1 ?_
  rotate_left
  · intro w hSw; (try dsimp only at hSw); go_simp; (first | done | with_reducible rfl)
  try simp only [Act.put, sb1, sb2, sb3]
  refine wpZ_only 20 rfl (by kernel_rfl) (by rfl) (fun K hK => ?_)
  go_simp
  have b7 : Below w5.heap.size w5 (w6.alloc (.cells #[.int .i64 (gi o 0), .int .i64 (gi o 6), .int .i64 (gi o 2), .int .i64 (gi o 3), .int .i64 (gi o 1), .slice RA ps.length rc] 139)) := b6.trans ((al1 w6 _).mono b6.size)
  refine hK.out _ _ ?_ (fun hH2 => ?_)
  · exact HK5.out _ b7
  clear hK K hH1
  try simp only [Act.put, sb1, sb2, sb3]
  refine wpZ_only 21 rfl (by kernel_rfl) (by rfl) (fun K hK => ?_)
  refine op_append_elem Tryz.underlying73 info_info rfl (by decide) (by decide) _ _ rfl _ 0 w5.heap.size w6.heap.size (.slice AL m.lp.length cl) m.lp.length vs [.int .i64 (gi o 0), .int .i64 (gi o 6), .int .i64 (gi o 2), .int .i64 (gi o 3), .int .i64 (gi o 1), .slice RA ps.length rc] 139 rfl rfl (alloc_at_ w6 _) (HL5.out.below b7 (Nat.le_refl _)) (Nat.zero_le _) (by omega) rfl (by simp [Value.oneCell']) ?_
  intro v8 w8 hv8 hg8 hl8
  obtain ⟨A8, c8, rfl⟩ := owr_formS hv8
  have hz7 := b7.size
  have hg9 := (hg8.block g (by omega) (fun e => (HLO5.out g e.symm).2 rfl)).trans (b7.block g hgl5)
  have hy9 := (hg8.block w.heap.size (by omega) (fun e => HNOT.out (HLO5.out w.heap.size e.symm).1)).trans (b7.block w.heap.size (by omega))
  refine hK.out _ _ ?_ (fun hH3 => ?_)
  · exact ⟨⟨(box8 (hy9.trans HY5.out)).1.1, (box8 (hy9.trans HY5.out)).1.2.1, (box8 (hy9.trans HY5.out)).1.2.2.1, (box8 (hy9.trans HY5.out)).1.2.2.2.1, (box8 (hy9.trans HY5.out)).1.2.2.2.2.2.2.1⟩, (box7 (hg9.trans HX5.out)).1.2.2.2.2.2.1⟩
  clear hK K hH2
  try simp only [Act.put, sb1, sb2, sb3]
  refine wpZ_take 22 26 (u := ?_) rfl (by kernel_rfl) (fun _ _ _ h => h) ⟨by rfl, ?_⟩ hH3 ?_
  rotate_left
  · intro w hSw; (try dsimp only at hSw); go_simp; (first | done | with_reducible rfl)
  try simp only [Act.put, sb1, sb2, sb3]
  refine wpZ_take 23 26 (u := ?_) rfl (by kernel_rfl) (fun _ _ _ h => h) ⟨by rfl, ?_⟩ hH3 ?_
  rotate_left
  · intro w hSw; (try dsimp only at hSw); go_simp; (first | done | with_reducible rfl)
  try simp only [Act.put, sb1, sb2, sb3]
  refine wpZ_last rfl (by kernel_rfl) (by kernel_rfl) (by rfl) (fun K hK => ?_)
  have yf5 := (box7 (hg9.trans HX5.out)).2.1 5
  go_simp
  refine hK.out _ _ ?_
  clear hK K hH3
  obtain ⟨P1, P2⟩ := HPUT5.out (.slice RA ps.length rc) ps (gi o 0) (gi o 6) (gi o 2) (gi o 3) (gi o 1) (fun k => w5.drew.heap.size ≤ k ∧ k < w6.heap.size) _ _ w8 b7 ((rw_ _ _).keep (rw_of_ow ho6) fun k hk => (al1 w6 _).block k hk.2) (fun j q => by simp; omega) (fun j q1 q2 => by have q3 : w5.heap.size ≤ j := q1.1; have := HS5.out j q2; omega) hg8 hl8 hv8.1
  have hz9 : (w8.setCell ⟨g, 5, none⟩ (.slice A8 (m.lp.length + 1) c8)).heap.size = w8.heap.size := by simp [World.setCell]
  have hz8 := hg8.size
  generalize w8.setCell ⟨g, 5, none⟩ (.slice A8 (m.lp.length + 1) c8) = w9 at P1 P2 hz9 ⊢
  simp only [World.size_alloc] at hz8
  have hz6 := b6.size
  have HFIN : Hid (OwBox w9 (Now S w w9) g (m.looped o ps)) := Lib.hid (by
    have e : m.looped o ps = { m.put (gi o 2) (gi o 3) (m.on (gi o 2) (gi o 3) ++ [m.n]) with lp := m.lp ++ [gi o 0 :: gi o 6 :: gi o 2 :: gi o 3 :: gi o 1 :: ps] } := by
      unfold Mac.looped Mac.made Mac.mine infoO
      rw [ELP.out]
    rw [e]
    refine P1.mono fun j q => ?_
    rcases q with (q | q) | q | q
    · exact .inl q
    · exact .inr ⟨by have := q.1; have := HZ1.out; omega, by have := q.2; omega⟩
    · exact .inr ⟨by have q3 : w5.heap.size ≤ j := q.1; omega, by have := q.2; omega⟩
    · have q1 := q.1
      simp only [World.size_alloc] at q1
      exact .inr ⟨by omega, by have := q.2; omega⟩)
  have HCH := Lib.hid (HC5.out.then P2 (fun j hj q => by
    rcases q with q | q
    · exact q
    · have := HZ1.out; omega))
  clear P1 P2 hv8 hg8 hl8 hg9 hy9 ho6 hq6 b6 b7
  go_wp2_with fail
  refine bodyPost_end (v := .tuple #[]) (by simp [results, Tryz.results92, go_sem]) rfl ⟨rfl, HFIN.out, HCH.out⟩
end Go.Proofs.YtgmppfhokfifgaaGreatDoor
