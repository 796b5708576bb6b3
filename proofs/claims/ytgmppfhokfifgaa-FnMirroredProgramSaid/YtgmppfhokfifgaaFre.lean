/-
  A machine in a box: another row is put into the place of the one on a needle, whose blocks are free then.
-/
import Derived.Test.YtgmppfhokfifgaaGma
namespace Go.Proofs.Ytgmppfhokfifgaa
set_option maxRecDepth 10000
open Go.RowKit

theorem OwS.swapF {w : World} {S : Nat → Prop} {v : Value} {xss : List (List Int)} (h : OwS w S v xss) (k : Nat) (hk : k < xss.length) (hS : ∀ b, S b → b < w.heap.size) :
    ∃ g cap u, ∃ S2 : Nat → Prop, v = .slice (some ⟨g, 0, none⟩) xss.length cap ∧ w.cell? ⟨g, k, none⟩ = some u ∧ w.frozen? ⟨g, k, none⟩ = false ∧ (rw_ u (gl xss k)).p w S2 ∧ (∀ b, S2 b → S b) ∧ ¬ S2 g ∧ S g ∧
      ∀ (u' : Value) (ys : List Int) (w' : World) (S3 : Nat → Prop), (rw_ u' ys).p w' S3 → (∀ b, S3 b → S b → S2 b) → ChgS S2 w w' → OwS (w'.setCell ⟨g, k, none⟩ u') (fun b => (S b ∧ ¬ S2 b) ∨ S3 b) v (xss.set k ys) := by
  classical
  obtain ⟨vs, tag, h1, h2, h3, h4⟩ := h
  have h1' := h1
  rcases h1.2 with ⟨rfl, h0⟩ | ⟨g, cap, cur, rfl, hlo, hh, hn, hcap, hsz, htake⟩
  · omega
  · obtain ⟨u, hu⟩ : ∃ u, vs[k]? = some u := ⟨vs[k], List.getElem?_eq_getElem (by omega)⟩
    have hg := h2 g rfl
    refine ⟨g, cap, u, fun b => S b ∧ tag b = k + 1, rfl, by rw [h1'.cellAt k (by omega), hu], h1'.frozenAt k, h4 k u hu, fun b hb => hb.1, fun hb => by have := hb.2; have := hg.2; omega, hg.1, fun u' ys w' S3 hr hS3 hc => ?_⟩
    have h1w : w'.ownsRow 0 32 1 (.slice (some ⟨g, 0, none⟩) xss.length cap) xss.length vs :=
      ownsRow_keep h1' fun g' hg' => by simp [Value.ownBlock] at hg'; subst hg'; exact hc.block g (hS g hg.1) fun q => by have := q.2; have := hg.2; omega
    have hs := h1w.stored k u'
    have hgn : ¬ S3 g := fun q => by have := (hS3 g q hg.1).2; have := hg.2; omega
    refine ⟨vs.set k u', fun b => if S3 b then k + 1 else if tag b = k + 1 then 0 else tag b, by rw [List.length_set]; exact hs.1, fun g' hg' => ?_, by simp [h3], fun j y hy => ?_⟩
    · simp [Value.ownBlock] at hg'
      subst hg'
      refine ⟨.inl ⟨hg.1, fun q => by have := q.2; have := hg.2; omega⟩, ?_⟩
      simp only
      rw [if_neg hgn, if_neg (by have := hg.2; omega)]
      exact hg.2
    · by_cases hjk : j = k
      · subst hjk
        rw [List.getElem?_set_self (by omega)] at hy
        injection hy with hy
        subst hy
        rw [show gl (xss.set j ys) j = ys by rw [gl_eq (by rw [List.length_set]; exact hk)]; simp]
        refine ⟨ownsRow_keep hr.1 fun g' hg' => Below.heap_setCell _ _ _ _ (fun e => hgn (by simp only at e; rw [← e]; exact hr.2 g' hg')), fun g' hg' => ?_⟩
        refine ⟨.inr (hr.2 g' hg'), ?_⟩
        simp only
        rw [if_pos (hr.2 g' hg')]
      · have hjl : j < vs.length := by have := (List.getElem?_eq_some_iff.1 hy).1; simpa using this
        rw [List.getElem?_set_ne (by omega)] at hy
        rw [show gl (xss.set k ys) j = gl xss j by rw [gl_eq (by rw [List.length_set]; omega), gl_eq (by omega), List.getElem_set_ne (by omega)]]
        have h5 := h4 j y hy
        refine ⟨ownsRow_keep h5.1 fun g' hg' => ?_, fun g' hg' => ?_⟩
        · have h6 := h5.2 g' hg'
          rw [Below.heap_setCell _ _ _ _ (fun e => by simp only at e; have := h6.2; rw [e] at this; have := hg.2; omega)]
          exact hc.block g' (hS g' h6.1) fun q => by have := q.2; have := h6.2; omega
        · have h6 := h5.2 g' hg'
          refine ⟨.inl ⟨h6.1, fun q => by have := q.2; have := h6.2; omega⟩, ?_⟩
          simp only
          rw [if_neg (fun q => by have := (hS3 g' q h6.1).2; have := h6.2; omega), if_neg (by have := h6.2; omega)]
          exact h6.2
/-- Another row is put into the place of the one on a needle, whose blocks are free. -/
theorem OwBox.rowF {w : World} {S : Nat → Prop} {g : Nat} {m : Mac} (h : OwBox w S g m) (bed : Int) (k : Nat) (hk : k < (m.sd bed).length) (hS : ∀ j, S j → j < w.heap.size) :
    ∃ f b c l d p n cap u, ∃ S2 : Nat → Prop, w.heap[g]? = some (.cells #[.int .i64 m.wd, .int .i64 m.rk, f, b, c, l, d] 39) ∧ (if bed = 2 then b else f) = .slice (some ⟨p, 0, none⟩) n cap ∧ k < n ∧
      w.cell? ⟨p, k, none⟩ = some u ∧ w.frozen? ⟨p, k, none⟩ = false ∧ (rw_ u (gl (m.sd bed) k)).p w S2 ∧ (∀ j, S2 j → S j) ∧ ¬ S2 p ∧ S p ∧ S g ∧ ¬ S2 g ∧ p ≠ g ∧
      ∀ (u' : Value) (ys : List Int) (w' : World) (S3 : Nat → Prop), (rw_ u' ys).p w' S3 → (∀ j, S3 j → S j → S2 j) → ChgS S2 w w' → OwBox (w'.setCell ⟨p, k, none⟩ u') (fun j => (S j ∧ ¬ S2 j) ∨ S3 j) g (m.put bed k ys) := by
  obtain ⟨f, b, c, l, d, tag, hg, htg, hx, hp⟩ := h
  by_cases hb : bed = 2
  · simp only [Mac.sd, if_pos hb] at hk ⊢
    obtain ⟨p, cap, u, S2, rfl, e2, e3, e4, e5, e6, e7, e8⟩ := hp.bk.swapF k hk fun j q => hS j q.1
    refine ⟨f, _, c, l, d, p, _, cap, u, S2, hx, rfl, hk, e2, e3, e4, fun j q => (e5 j q).1, e6, e7.1, hg, fun q => by have := (e5 g q).2; omega, fun q => by subst q; have := e7.2; omega, fun u' ys w' S3 hr h3 hc => ?_⟩
    have hkeep : ∀ j, S j → tag j ≠ 1 → (w'.setCell ⟨p, k, none⟩ u').heap[j]? = w.heap[j]? := fun j q1 q2 => by
      rw [Below.heap_setCell _ _ _ _ (fun e => by simp only at e; subst e; exact q2 e7.2)]
      exact hc.block j (hS j q1) fun q => q2 (e5 j q).2
    obtain ⟨tag', t1, t2, q0, -, q2, q3, q4⟩ := hp.frame (w' := w'.setCell ⟨p, k, none⟩ u') (S2 := S2) (S3 := S3) 1 (fun j q => (e5 j q).2) h3 hkeep
    have hnew := (e8 u' ys w' S3 hr (fun j q1 q2 => h3 j q1 q2.1) hc).mono (S' := fun j => ((S j ∧ ¬ S2 j) ∨ S3 j) ∧ tag' j = 1) fun j q => by
      rcases q with ⟨q, qn⟩ | q
      · exact ⟨.inl ⟨q.1, qn⟩, by rw [t1 j q.1]; exact q.2⟩
      · exact ⟨.inr q, t2 j q⟩
    have hm : ∀ u, u ≠ 1 → ∀ j, (S j ∨ S3 j) ∧ tag' j = u → ((S j ∧ ¬ S2 j) ∨ S3 j) ∧ tag' j = u := fun u hu j q => ⟨by
      rcases q.1 with q1 | q1
      · exact .inl ⟨q1, fun q3 => hu (by rw [← q.2, t1 j q1]; exact (e5 j q3).2)⟩
      · exact .inr q1, q.2⟩
    refine ⟨f, .slice (some ⟨p, 0, none⟩) m.bk.length cap, c, l, d, tag', .inl ⟨hg, fun q => by have := (e5 g q).2; omega⟩, by rw [t1 g hg]; exact htg, ?_, ?_⟩
    · rw [hkeep g hg (by omega), hx]
      simp [Mac.put, hb]
    · have e : m.put bed k ys = { m with bk := m.bk.set k ys } := by simp [Mac.put, hb]
      rw [e]
      exact ⟨(q0 (by omega)).mono (hm 0 (by omega)), hnew, (q2 (by omega)).mono (hm 2 (by omega)), (q3 (by omega)).mono (hm 3 (by omega)), rw_mono (q4 (by omega)) (hm 4 (by omega))⟩
  · simp only [Mac.sd, if_neg hb] at hk ⊢
    obtain ⟨p, cap, u, S2, rfl, e2, e3, e4, e5, e6, e7, e8⟩ := hp.fr.swapF k hk fun j q => hS j q.1
    refine ⟨_, b, c, l, d, p, _, cap, u, S2, hx, rfl, hk, e2, e3, e4, fun j q => (e5 j q).1, e6, e7.1, hg, fun q => by have := (e5 g q).2; omega, fun q => by subst q; have := e7.2; omega, fun u' ys w' S3 hr h3 hc => ?_⟩
    have hkeep : ∀ j, S j → tag j ≠ 0 → (w'.setCell ⟨p, k, none⟩ u').heap[j]? = w.heap[j]? := fun j q1 q2 => by
      rw [Below.heap_setCell _ _ _ _ (fun e => by simp only at e; subst e; exact q2 e7.2)]
      exact hc.block j (hS j q1) fun q => q2 (e5 j q).2
    obtain ⟨tag', t1, t2, -, q1, q2, q3, q4⟩ := hp.frame (w' := w'.setCell ⟨p, k, none⟩ u') (S2 := S2) (S3 := S3) 0 (fun j q => (e5 j q).2) h3 hkeep
    have hnew := (e8 u' ys w' S3 hr (fun j q1 q2 => h3 j q1 q2.1) hc).mono (S' := fun j => ((S j ∧ ¬ S2 j) ∨ S3 j) ∧ tag' j = 0) fun j q => by
      rcases q with ⟨q, qn⟩ | q
      · exact ⟨.inl ⟨q.1, qn⟩, by rw [t1 j q.1]; exact q.2⟩
      · exact ⟨.inr q, t2 j q⟩
    have hm : ∀ u, u ≠ 0 → ∀ j, (S j ∨ S3 j) ∧ tag' j = u → ((S j ∧ ¬ S2 j) ∨ S3 j) ∧ tag' j = u := fun u hu j q => ⟨by
      rcases q.1 with q1 | q1
      · exact .inl ⟨q1, fun q3 => hu (by rw [← q.2, t1 j q1]; exact (e5 j q3).2)⟩
      · exact .inr q1, q.2⟩
    refine ⟨.slice (some ⟨p, 0, none⟩) m.fr.length cap, b, c, l, d, tag', .inl ⟨hg, fun q => by have := (e5 g q).2; omega⟩, by rw [t1 g hg]; exact htg, ?_, ?_⟩
    · rw [hkeep g hg (by omega), hx]
      simp [Mac.put, hb]
    · have e : m.put bed k ys = { m with fr := m.fr.set k ys } := by simp [Mac.put, hb]
      rw [e]
      exact ⟨hnew, (q1 (by omega)).mono (hm 1 (by omega)), (q2 (by omega)).mono (hm 2 (by omega)), (q3 (by omega)).mono (hm 3 (by omega)), rw_mono (q4 (by omega)) (hm 4 (by omega))⟩
theorem OwBox.bedsNe {w : World} {S : Nat → Prop} {g : Nat} {m : Mac} (h : OwBox w S g m) {x0 x1 f b c l d : Value} {t : TypeId} (hx : w.heap[g]? = some (.cells #[x0, x1, f, b, c, l, d] t)) {p1 p2 n1 n2 c1 c2 : Nat} (h1 : f = .slice (some ⟨p1, 0, none⟩) n1 c1) (h2 : b = .slice (some ⟨p2, 0, none⟩) n2 c2) : p1 ≠ p2 := by
  obtain ⟨f', b', c', l', d', tag, hg, htg, hx', hp⟩ := h
  rw [hx] at hx'
  simp only [Option.some.injEq, Obj.cells.injEq, Array.mk.injEq, List.cons.injEq] at hx'
  obtain ⟨⟨-, -, rfl, rfl, -, -, -, -⟩, -⟩ := hx'
  obtain ⟨vs, tg, -, v2, -⟩ := hp.fr
  obtain ⟨vs', tg', -, v2', -⟩ := hp.bk
  subst h1 h2
  have a1 := (v2 p1 rfl).1.2
  have a2 := (v2' p2 rfl).1.2
  intro e
  subst e
  omega
theorem box7_inj {w : World} {g : Nat} {a b c d e f h a' b' c' d' e' f' h' : Value} {t t' : TypeId} (h1 : w.heap[g]? = some (.cells #[a, b, c, d, e, f, h] t)) (h2 : w.heap[g]? = some (.cells #[a', b', c', d', e', f', h'] t')) : c = c' ∧ d = d' := by
  rw [h1] at h2
  simp only [Option.some.injEq, Obj.cells.injEq, Array.mk.injEq, List.cons.injEq] at h2
  exact ⟨h2.1.2.2.1, h2.1.2.2.2.1⟩
/-- A row is put into the place of the one on a needle of one bed, and the row of a needle of the other bed is taken out. -/
theorem OwBox.two {w : World} {S : Nat → Prop} {g : Nat} {m : Mac} (h : OwBox w S g m) (hS : ∀ j, S j → j < w.heap.size) (hok : OkM m) {fb fa tb ta : Int} (n1 : m.ndl fb fa) (n2 : m.ndl tb ta) (hne : fb ≠ tb) :
    ∃ f b c l d p1 k1 c1 u1 p2 k2 c2 u2, w.heap[g]? = some (.cells #[.int .i64 m.wd, .int .i64 m.rk, f, b, c, l, d] 39) ∧ (if fb = 2 then b else f) = .slice (some ⟨p1, 0, none⟩) k1 c1 ∧ fa.toNat < k1 ∧ (if tb = 2 then b else f) = .slice (some ⟨p2, 0, none⟩) k2 c2 ∧ ta.toNat < k2 ∧
      w.cell? ⟨p1, fa.toNat, none⟩ = some u1 ∧ w.frozen? ⟨p1, fa.toNat, none⟩ = false ∧ w.cell? ⟨p2, ta.toNat, none⟩ = some u2 ∧ w.frozen? ⟨p2, ta.toNat, none⟩ = false ∧ Sl w w.heap.size u1 (m.on fb fa) ∧ Sl w w.heap.size u2 (m.on tb ta) ∧ S p1 ∧ S p2 ∧ S g ∧ p1 ≠ p2 ∧ p1 ≠ g ∧ p2 ≠ g ∧
      ∀ (r : Value) (ys : List Int) (w' : World) (S3 : Nat → Prop), (rw_ r ys).p w' S3 → (∀ j, S3 j → ¬ S j) → (∀ j, S3 j → j < w'.heap.size) → Below w.heap.size w w' →
        ∃ S1 : Nat → Prop, (∀ j, S1 j → S j ∨ S3 j) ∧ ChgS S w (w'.setCell ⟨p2, ta.toNat, none⟩ r) ∧ ∀ w5, Below (w'.setCell ⟨p2, ta.toNat, none⟩ r).heap.size (w'.setCell ⟨p2, ta.toNat, none⟩ r) w5 →
          (w5.setCell ⟨p1, fa.toNat, none⟩ (.slice none 0 0)).heap.size = w5.heap.size ∧ OwBox (w5.setCell ⟨p1, fa.toNat, none⟩ (.slice none 0 0)) (fun j => (S j ∨ S3 j) ∧ ¬ S1 j) g ((m.put tb ta ys).put fb fa []) ∧ (rw_ u1 (m.on fb fa)).p (w5.setCell ⟨p1, fa.toNat, none⟩ (.slice none 0 0)) S1 ∧ ChgS S w (w5.setCell ⟨p1, fa.toNat, none⟩ (.slice none 0 0)) := by
  obtain ⟨f, b, c, l, d, p2, k2, c2, u2, S2, hx, e2, kn2, hc2, hf2, hr2, s2, ns2, sp2, sg, ns2g, p2g, put2⟩ := h.row tb ta.toNat (hok.sdlt n2) hS
  obtain ⟨f', b', c', l', d', p1, k1, c1, u1, S1x, hx', e1, kn1, hc1, hf1, hr1, s1, -, sp1, -, -, p1g, -⟩ := h.row fb fa.toNat (hok.sdlt n1) hS
  obtain ⟨rfl, rfl⟩ := box7_inj hx' hx
  have p12 : p1 ≠ p2 := by
    rcases n1.1 with q | q <;> rcases n2.1 with q2 | q2
    · omega
    · rw [q, if_neg (by decide)] at e1
      rw [q2, if_pos rfl] at e2
      exact h.bedsNe hx e1 e2
    · rw [q, if_pos rfl] at e1
      rw [q2, if_neg (by decide)] at e2
      exact fun e => h.bedsNe hx e2 e1 e.symm
    · omega
  refine ⟨f', b', c, l, d, p1, k1, c1, u1, p2, k2, c2, u2, hx, e1, kn1, e2, kn2, hc1, hf1, hc2, hf2, rw_sl hr1 (fun j q => hS j (s1 j q)), rw_sl hr2 (fun j q => hS j (s2 j q)), sp1, sp2, sg, p12, p1g, p2g, fun r ys w' S3 hr h3 h3l hb => ?_⟩
  have hz := hb.size
  have h4 := put2 r ys w' S3 hr (fun j q1 q2 => absurd q2 (h3 j q1)) (ChgS.of_below hb)
  rw [Int.toNat_of_nonneg n2.2.1] at h4
  have ch4 : ChgS S w (w'.setCell ⟨p2, ta.toNat, none⟩ r) := (ChgS.of_below hb).setC _ sp2
  have z4 : (w'.setCell ⟨p2, ta.toNat, none⟩ r).heap.size = w'.heap.size := by simp [World.setCell]
  have hS4 : ∀ j, (S j ∨ S3 j) → j < (w'.setCell ⟨p2, ta.toNat, none⟩ r).heap.size := fun j q => by
    rw [z4]
    rcases q with q | q
    · have := hS j q; omega
    · exact h3l j q
  have hsd : fa.toNat < ((m.put tb ta ys).sd fb).length := by
    have := hok.sdlt n1
    unfold Mac.put Mac.sd at *
    split <;> split <;> simp_all
  obtain ⟨f4, b4, c4, l4, d4, q1, k4, cc4, u4, S1, hx4, e4, kn4, hc4, hf4, hr4, s4, ns4, sp4, sg4, ns4g, q1g, put4⟩ := h4.rowF fb fa.toNat hsd hS4
  have hxg : (w'.setCell ⟨p2, ta.toNat, none⟩ r).heap[g]? = w.heap[g]? := (Below.heap_setCell _ _ _ _ (fun e => p2g e.symm)).trans (hb.block g (hS g sg))
  obtain ⟨rfl, rfl⟩ := box7_inj (hxg.trans hx) hx4
  rw [e1] at e4
  simp only [Value.slice.injEq, Option.some.injEq, Addr.mk.injEq] at e4
  obtain ⟨⟨rfl, -, -⟩, -, -⟩ := e4
  have hcu : (w'.setCell ⟨p2, ta.toNat, none⟩ r).cell? ⟨p1, fa.toNat, none⟩ = some u1 := by
    have e : (w'.setCell ⟨p2, ta.toNat, none⟩ r).heap[p1]? = w.heap[p1]? := (Below.heap_setCell _ _ _ _ (fun e => p12 (by simpa using e))).trans (hb.block p1 (hS p1 sp1))
    simp only [World.cell?, e] at hc1 ⊢
    exact hc1
  rw [hcu] at hc4
  injection hc4 with hc4
  subst hc4
  have hrow : gl ((m.put tb ta ys).sd fb) fa.toNat = m.on fb fa := on_put_other m (Ne.symm hne) n2.1 n1.1 ys
  rw [hrow] at hr4
  refine ⟨S1, s4, ch4, fun w5 hb5 => ?_⟩
  have h5 := put4 (.slice none 0 0) [] w5 (fun _ => False) ⟨World.ownsRow_nil _ _ _ _, by simp [Value.ownBlock]⟩ (fun j q => q.elim) (ChgS.of_below hb5)
  rw [Int.toNat_of_nonneg n1.2.1] at h5
  refine ⟨by simp [World.setCell], h5.mono fun j q => ?_, ?_, ?_⟩
  · rcases q with q | q
    · exact q
    · exact q.elim
  · refine ⟨ownsRow_keep hr4.1 fun j q => ?_, hr4.2⟩
    have q2 := hr4.2 j q
    rw [Below.heap_setCell _ _ _ _ (fun e => ns4 (by simp only at e; rw [← e]; exact q2))]
    exact hb5.block j (hS4 j (s4 j q2))
  · have hz5 := hb5.size
    refine ChgS.setC ⟨hb5.os.trans ch4.os, hb5.tape.trans ch4.tape, hb5.output.trans ch4.output, Nat.le_trans ch4.size hz5, fun j hj hn => (hb5.block j (by rw [z4]; omega)).trans (ch4.block j hj hn)⟩ _ sp1
end Go.Proofs.Ytgmppfhokfifgaa
