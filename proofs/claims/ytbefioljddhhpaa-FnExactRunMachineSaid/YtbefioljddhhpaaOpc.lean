/-
  Plain laws: the program's opCode (opC), and what execute leaves (exeM), against codeM and stepM. No program in sight.
-/
import Derived.Test.YtbefioljddhhpaaOkm
namespace Go.Proofs.Ytbefioljddhhpaa
set_option maxRecDepth 10000

/-! ### The program's opCode and execute -/
def cfB (m : Mac) (o : List Int) : Bool :=
  if gi o 0 = 4 ∨ gi o 0 = 6 ∨ gi o 0 = 7 then true
  else if gi o 0 = 8 then !(m.car o).1
  else if gi o 0 = 9 then (m.car o).1
  else (m.car o).1 && ((decide (gi o 1 = 1) && decide ((m.car o).2 ≤ plc (gi o 2) (gi o 3) m.rk)) || (decide (gi o 1 = -1) && decide (plc (gi o 2) (gi o 3) m.rk + 1 ≤ (m.car o).2)))
def mkB (k : Int) : Bool := decide (k = 1) || decide (k = 2) || decide (k = 5)
def faceM (m : Mac) (o : List Int) : Int := if gi o 2 = 2 then gi o 3 + m.rk else gi o 3 - m.rk
def mvC (m : Mac) (o : List Int) : Int :=
  if ¬ (0 ≤ faceM m o ∧ faceM m o ≤ m.wd - 1 ∧ 3 - gi o 2 = gi o 4 ∧ faceM m o = gi o 5) then 8 else if (m.mine o).length = 0 then 7 else if 4 < (m.mine o).length + (m.other o).length then 5 else 0
def opC (m : Mac) (o : List Int) : Int :=
  if m.wd ≤ gi o 3 ∨ m.wd ≤ gi o 5 then 1
  else if cfB m o = false then 9
  else if mkB (gi o 0) = true ∧ m.lp.length = 300 then 5
  else if gi o 0 = 2 ∧ (m.mine o).length = 4 then 5
  else if gi o 0 = 6 ∧ (m.mine o).length = 0 then 7
  else if gi o 0 ≠ 4 ∧ gi o 0 ≠ 5 then 0
  else mvC m o
theorem opC_no {m : Mac} {o : List Int} (h : ¬ (gi o 3 < m.wd ∧ gi o 5 < m.wd)) : opC m o = 1 := by unfold opC; rw [if_pos (by omega)]
theorem cf_carry {m : Mac} {o : List Int} (hk : gi o 0 = 1 ∨ gi o 0 = 2 ∨ gi o 0 = 3 ∨ gi o 0 = 5) (hd : pur (gi o 1)) : cfB m o = carryB m o := by
  unfold cfB carryB
  rw [if_neg (by omega), if_neg (by omega), if_neg (by omega), Bool.and_assoc]
  congr 1
  rcases hd with h | h <;> simp [h]
  · by_cases q : (m.car o).2 ≤ plc (gi o 2) (gi o 3) m.rk
    · simp [q]
    · simp [q]; omega
  · by_cases q : plc (gi o 2) (gi o 3) m.rk + 1 ≤ (m.car o).2
    · simp [q]
    · simp [q]; omega
theorem mv_move {m : Mac} {o : List Int} (hb : gi o 2 = 1 ∨ gi o 2 = 2) (hb2 : gi o 4 = 1 ∨ gi o 4 = 2) (hne : gi o 2 ≠ gi o 4) (ha : 0 ≤ gi o 5) (f2 : gi o 5 < m.wd) : mvC m o = moveC m o := by
  unfold mvC moveC faceM plc
  have e : (¬ (0 ≤ (if gi o 2 = 2 then gi o 3 + m.rk else gi o 3 - m.rk) ∧ (if gi o 2 = 2 then gi o 3 + m.rk else gi o 3 - m.rk) ≤ m.wd - 1 ∧ 3 - gi o 2 = gi o 4 ∧ (if gi o 2 = 2 then gi o 3 + m.rk else gi o 3 - m.rk) = gi o 5)) ↔
      (if gi o 2 = 2 then gi o 3 + m.rk else gi o 3) ≠ (if gi o 4 = 2 then gi o 5 + m.rk else gi o 5) := by
    rcases hb with h | h <;> rcases hb2 with h2 | h2 <;> simp [h, h2] <;> omega
  simp only [e]
theorem opC_code {m : Mac} {o : List Int} (h : OkM m) (ho : OpOk m o) : opC m o = codeM m o := by
  have hf := op_form ho.op
  have f1 := ho.f1
  have f2 := ho.f2
  have hlp := h.lp
  unfold opC codeM
  rw [if_neg (by omega)]
  rcases hf with ⟨hk, hd, hb, ha, c1, c2⟩ | ⟨hk, hb, ha, hb2, ha2, hne⟩ | ⟨hk, hb, ha, hb2, ha2, hne, hd, c1, c2⟩ | ⟨hk, hb, ha⟩ | ⟨hk, r1, r2⟩ | ⟨hk, hd, c1, c2⟩ | ⟨hk, c1, c2⟩
  · rw [cf_carry (by omega) hd]
    have hl4 := on_len h (b := gi o 2) (a := gi o 3) ⟨hb, ha, f1⟩
    have hl4' : (m.mine o).length ≤ 4 := hl4
    rcases hk with hk | hk | hk
    · cases carryB m o <;> simp [hk, mkB]
      by_cases q : m.lp.length = 300
      · simp [q]
      · rw [if_neg q, if_neg (show ¬ 300 ≤ m.lp.length by omega)]
    · cases carryB m o <;> simp [hk, mkB]
      by_cases q : m.lp.length = 300
      · simp [q]
      · rw [if_neg q, if_neg (show ¬ 300 ≤ m.lp.length by omega)]
        by_cases q2 : (m.mine o).length = 4
        · rw [if_pos q2, if_pos (show 4 ≤ (m.mine o).length by omega)]
        · rw [if_neg q2, if_neg (show ¬ 4 ≤ (m.mine o).length by omega)]
    · cases carryB m o <;> simp [hk, mkB]
  · have e : cfB m o = true := by unfold cfB; rw [if_pos (by omega)]
    rw [e, mv_move hb hb2 hne ha2 f2]
    simp [hk, mkB]
  · rw [cf_carry (by omega) hd, mv_move hb hb2 hne ha2 f2]
    cases carryB m o <;> simp [hk, mkB]
    by_cases q : m.lp.length = 300
    · simp [q]
    · rw [if_neg q, if_neg (show ¬ 300 ≤ m.lp.length by omega)]
  · have e : cfB m o = true := by unfold cfB; rw [if_pos (by omega)]
    rw [e]
    simp [hk, mkB]
  · have e : cfB m o = true := by unfold cfB; rw [if_pos (by omega)]
    rw [e]
    simp [hk, mkB]
  · have e : cfB m o = !(m.car o).1 := by unfold cfB; rw [if_neg (by omega), if_pos (by omega)]
    rw [e]
    cases (m.car o).1 <;> simp [hk, mkB]
  · have e : cfB m o = (m.car o).1 := by unfold cfB; rw [if_neg (by omega), if_neg (by omega), if_pos (by omega)]
    rw [e]
    cases (m.car o).1 <;> simp [hk, mkB]
/-! ### What execute leaves -/
def Mac.looped (m : Mac) (o ps : List Int) : Mac := (m.put (gi o 2) (gi o 3) (m.mine o ++ [m.n])).made o ps
def Mac.setAt (m : Mac) (o : List Int) : Mac := m.setC o ((m.car o).1, plc (gi o 2) (gi o 3) m.rk + (gi o 1 + 1) / 2)
def Mac.dropped (m : Mac) (o : List Int) (xs : List Int) : Mac := ({ m with dr := xs } : Mac).put (gi o 2) (gi o 3) []
def exeM (m : Mac) (o : List Int) : Mac :=
  if gi o 0 = 1 then ((m.put (gi o 2) (gi o 3) []).looped o (m.mine o)).setAt o
  else if gi o 0 = 2 then (m.looped o []).setAt o
  else if gi o 0 = 3 then m.setAt o
  else if gi o 0 = 5 then ((m.moved o).looped o (m.mine o)).setAt o
  else if gi o 0 = 4 then m.moved o
  else if gi o 0 = 6 then m.dropped o (putAll m.dr (m.mine o))
  else if gi o 0 = 7 then { m with rk := gi o 7 }
  else if gi o 0 = 8 then m.setC o (true, if gi o 1 = -1 then m.wd + 3 else -3)
  else m.setC o (false, 0)
theorem put_put (m : Mac) (b a : Int) (xs ys : List Int) : (m.put b a xs).put b a ys = m.put b a ys := by
  unfold Mac.put; split <;> simp_all
theorem carryAt_eq {m : Mac} {o : List Int} (h : pur (gi o 1)) : plc (gi o 2) (gi o 3) m.rk + (gi o 1 + 1) / 2 = carryAt m o := by
  unfold carryAt
  rcases h with h | h <;> simp [h]
theorem setAt_put (m : Mac) (o : List Int) (b a : Int) (xs : List Int) : (m.put b a xs).setAt o = (m.setAt o).put b a xs := by
  unfold Mac.put; split <;> rfl
theorem made_put (m : Mac) (o ps : List Int) (b a : Int) (xs : List Int) : (m.put b a xs).made o ps = (m.made o ps).put b a xs := by
  unfold Mac.put; split <;> rfl
theorem setAt_made (m : Mac) (o ps : List Int) : (m.made o ps).setAt o = (m.setAt o).made o ps := rfl
theorem setAt_eq {m : Mac} {o : List Int} (h : pur (gi o 1)) : m.setAt o = m.carried o := by
  unfold Mac.setAt Mac.carried; rw [carryAt_eq h]
theorem put_n (m : Mac) (b a : Int) (xs : List Int) : (m.put b a xs).n = m.n := by unfold Mac.put; split <;> rfl
theorem carried_moved {m : Mac} {o : List Int} : (m.carried o).moved o = (m.moved o).setC o ((m.car o).1, carryAt m o) := by
  unfold Mac.moved
  have e : (m.carried o).joined o = m.joined o := rfl
  rw [e]
  generalize m.joined o = js
  unfold Mac.carried Mac.put
  split <;> split <;> rfl
theorem moved_parts (m : Mac) (o : List Int) : (m.moved o).cr = m.cr ∧ (m.moved o).rk = m.rk ∧ (m.moved o).wd = m.wd ∧ (m.moved o).lp = m.lp ∧ (m.moved o).dr = m.dr := by
  unfold Mac.moved
  obtain ⟨a1, a2, a3, a4, a5, -, -⟩ := put_parts (m.put (gi o 4) (gi o 5) (m.joined o)) (gi o 2) (gi o 3) []
  obtain ⟨b1, b2, b3, b4, b5, -, -⟩ := put_parts m (gi o 4) (gi o 5) (m.joined o)
  exact ⟨a3.trans b3, a2.trans b2, a1.trans b1, a4.trans b4, a5.trans b5⟩
theorem exeM_step {m : Mac} {o : List Int} (h : OkM m) (ho : OpOk m o) : exeM m o = stepM m o := by
  have hf := op_form ho.op
  have f1 := ho.f1
  have f2 := ho.f2
  unfold exeM stepM
  rcases hf with ⟨hk, hd, hb, ha, c1, c2⟩ | ⟨hk, hb, ha, hb2, ha2, hne⟩ | ⟨hk, hb, ha, hb2, ha2, hne, hd, c1, c2⟩ | ⟨hk, hb, ha⟩ | ⟨hk, r1, r2⟩ | ⟨hk, hd, c1, c2⟩ | ⟨hk, c1, c2⟩
  · have hn : m.ndl (gi o 2) (gi o 3) := ⟨hb, ha, f1⟩
    rcases hk with hk | hk | hk
    · rw [if_pos hk, if_pos hk]
      have e1 : (m.put (gi o 2) (gi o 3) []).mine o = [] := on_put_self m h hn []
      unfold Mac.looped
      rw [e1, put_put, List.nil_append, put_n, made_put, setAt_put, setAt_made, setAt_eq hd]
    · rw [if_neg (by omega), if_pos hk, if_neg (by omega), if_pos hk]
      unfold Mac.looped
      rw [made_put, setAt_put, setAt_made, setAt_eq hd]
    · rw [if_neg (by omega), if_neg (by omega), if_pos hk, if_neg (by omega), if_neg (by omega), if_neg (by omega), if_pos hk, setAt_eq hd]
  · simp [hk]
  · rw [if_neg (by omega), if_neg (by omega), if_neg (by omega), if_pos hk, if_neg (by omega), if_neg (by omega), if_pos hk]
    have e1 : (m.moved o).mine o = [] := by
      unfold Mac.moved Mac.mine
      rw [put_comm m (Ne.symm hne) hb2 hb, on_put_other _ (Ne.symm hne) hb2 hb]
      exact on_put_self m h ⟨hb, ha, f1⟩ []
    obtain ⟨p1, p2, p3, p4, p5⟩ := moved_parts m o
    unfold Mac.looped
    rw [e1, List.nil_append, made_put, setAt_put, setAt_made, setAt_eq hd, carried_moved]
    have e2 : (m.moved o).n = m.n := by unfold Mac.n; rw [p4]
    have e3 : (m.moved o).carried o = (m.moved o).setC o ((m.car o).1, carryAt m o) := by
      unfold Mac.carried Mac.car carryAt
      rw [p1, p2]
    rw [e2, e3]
  · simp [hk, Mac.dropped]
  · simp [hk]
  · simp [hk]
  · simp [hk]
/-- Sorted dropped loops. -/
theorem pair_lt_ext : ∀ (xs ys : List Int), xs.Pairwise (· < ·) → ys.Pairwise (· < ·) → (∀ x, x ∈ xs ↔ x ∈ ys) → xs = ys
  | [], [], _, _, _ => rfl
  | [], y :: ys, _, _, h => by have := (h y).2 (by simp); cases this
  | x :: xs, [], _, _, h => by have := (h x).1 (by simp); cases this
  | x :: xs, y :: ys, h1, h2, h => by
    rw [List.pairwise_cons] at h1 h2
    have e : x = y := by
      have a := (h x).1 (by simp)
      have b := (h y).2 (by simp)
      rw [List.mem_cons] at a b
      rcases a with a | a
      · exact a
      · rcases b with b | b
        · exact b.symm
        · have := h1.1 y b; have := h2.1 x a; omega
    subst e
    congr 1
    refine pair_lt_ext xs ys h1.2 h2.2 fun z => ?_
    have := h z
    rw [List.mem_cons, List.mem_cons] at this
    constructor
    · intro q
      rcases this.1 (.inr q) with e | e
      · subst e; have := h1.1 z q; omega
      · exact e
    · intro q
      rcases this.2 (.inr q) with e | e
      · subst e; have := h2.1 z q; omega
      · exact e
theorem putAll_of_perm {dr xs ys : List Int} (h1 : dr.Pairwise (· < ·)) (hc : ∀ x, dr.count x + xs.count x ≤ 1) (hp : ys.Perm (dr ++ xs)) (hs : ys.Pairwise (· ≤ ·)) : ys = putAll dr xs := by
  refine pair_lt_ext _ _ ?_ (putAll_pair h1) fun x => ?_
  · have hn : ys.Nodup := nodup_cnt.2 fun x => by rw [hp.count_eq, List.count_append]; exact hc x
    exact (hs.and hn).imp fun {a b} q => by have := q.1; have := q.2; omega
  · rw [hp.mem_iff, putAll_mem, List.mem_append]
theorem OkM.drop_cnt {m : Mac} (h : OkM m) {b a : Int} (hn : m.ndl b a) (x : Int) : m.dr.count x + (m.on b a).count x ≤ 1 := by
  have a1 := h.put_cnt hn [] x
  have a2 := h.cnt_le x
  have a3 := Mac.cnt_eq (m.put b a []) x
  rw [(put_parts m b a []).2.2.2.2.1] at a3
  simp at a1
  omega
end Go.Proofs.Ytbefioljddhhpaa
