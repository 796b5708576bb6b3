/-
  Plain law: no loop is lost when an operation is executed (Used.step). No program in sight.
-/
import Derived.Test.YtgmppfhokfifgaaGreatGmh
namespace Go.Proofs.YtgmppfhokfifgaaGreat
set_option maxRecDepth 10000

/-! ### No loop is lost -/
def Used (m : Mac) : Prop := ∀ x : Int, 0 ≤ x → x < m.lp.length → 0 < m.cnt x ∨ ∃ l ∈ m.lp, x ∈ l.drop 5
theorem one_cnt (x y : Int) : [y].count x = if x = y then 1 else 0 := by
  by_cases e : x = y
  · subst e; simp
  · rw [if_neg e]; exact List.count_eq_zero.2 (by simpa using e)
/-- A loop is made on a needle whose old loops keep their place or are its parents. -/
theorem Used.make {m m' : Mac} (h : OkM m) (hu : Used m) {o ps ks : List Int} (n1 : m.ndl (gi o 2) (gi o 3)) (hlp : m'.lp = m.lp ++ [infoO o ps]) (hc : ∀ x, m'.cnt x + (m.mine o).count x = m.cnt x + (ks ++ [m.n]).count x) (hk : ∀ x, x ∈ m.mine o → x ∈ ks ∨ x ∈ ps) : Used m' := by
  intro x h0 h1
  rw [hlp] at h1 ⊢
  simp only [List.length_append, List.length_cons, List.length_nil] at h1
  have hx := hc x
  rw [List.count_append, one_cnt] at hx
  by_cases e : x = m.n
  · left
    rw [if_pos e] at hx
    have h2 := h.fresh
    rw [← e] at h2
    have h3 : (m.mine o).count x ≤ m.cnt x := count_le_of h n1 x
    omega
  · rw [if_neg e] at hx
    have hlt : x < m.lp.length := by have := m.n_eq; omega
    rcases hu x h0 hlt with q | ⟨l, hl, q⟩
    · by_cases hm : x ∈ m.mine o
      · rcases hk x hm with r | r
        · left
          have c1 := List.count_pos_iff.2 r
          have c2 : (m.mine o).count x ≤ m.cnt x := count_le_of h n1 x
          have c3 := h.cnt_le x
          have c4 : (m.mine o).count x ≤ 1 := by omega
          omega
        · right
          exact ⟨infoO o ps, by simp, r⟩
      · left
        rw [List.count_eq_zero.2 hm] at hx
        omega
    · right
      exact ⟨l, by simp [hl], q⟩
theorem Used.same {m m' : Mac} (hu : Used m) (hlp : m'.lp = m.lp) (hc : ∀ x, m.cnt x ≤ m'.cnt x) : Used m' := by
  intro x h0 h1
  rw [hlp] at h1 ⊢
  rcases hu x h0 h1 with q | q
  · left; have := hc x; omega
  · exact .inr q
def Mac.withD (m : Mac) (ds : List Int) : Mac := { m with dr := ds }
theorem dr_cnt (m : Mac) (ds : List Int) (x : Int) : (m.withD ds).cnt x + m.dr.count x = m.cnt x + ds.count x := by
  rw [Mac.cnt_eq, Mac.cnt_eq]
  show m.fr.flatten.count x + m.bk.flatten.count x + ds.count x + m.dr.count x = _
  omega
theorem Used.step {m : Mac} (h : OkM m) (hu : Used m) {o : List Int} (ho : OpOk m o) (hc : codeM m o = 0) : Used (stepM m o) := by
  have f1 := ho.f1
  have f2 := ho.f2
  unfold codeM at hc
  unfold stepM
  rcases op_form ho.op with ⟨hk, hd, hb, ha, c1, c2⟩ | ⟨hk, hb, ha, hb2, ha2, hne⟩ | ⟨hk, hb, ha, hb2, ha2, hne, hd, c1, c2⟩ | ⟨hk, hb, ha⟩ | ⟨hk, r1, r2⟩ | ⟨hk, hd, c1, c2⟩ | ⟨hk, c1, c2⟩
  · have n1 : m.ndl (gi o 2) (gi o 3) := ⟨hb, ha, f1⟩
    have hcy : carryB m o = true := by
      cases e : carryB m o
      · rw [e] at hc; simp at hc; rcases hk with hk | hk | hk <;> rw [hk] at hc <;> simp at hc
      · rfl
    have hca := h.carried hcy n1
    have hpc : ∀ ps ys x, (((m.carried o).made o ps).put (gi o 2) (gi o 3) ys).cnt x + (m.mine o).count x = m.cnt x + ys.count x := by
      intro ps ys x
      have hlen : OkM (m.carried o) := hca
      have := OkM.put_cnt hlen (b := gi o 2) (a := gi o 3) n1 ys x
      have e1 : (((m.carried o).made o ps).put (gi o 2) (gi o 3) ys).cnt x = ((m.carried o).put (gi o 2) (gi o 3) ys).cnt x := by
        rw [Mac.cnt_eq, Mac.cnt_eq]
        unfold Mac.put
        split <;> rfl
      rw [e1]
      exact this
    rcases hk with hk | hk | hk
    · rw [if_pos hk]
      refine Used.make h hu n1 (o := o) (ps := m.mine o) (ks := []) ?_ (fun x => ?_) (fun x hx => .inr hx)
      · rw [(put_parts _ _ _ _).2.2.2.1]; rfl
      · rw [List.nil_append]; exact hpc _ _ x
    · rw [if_neg (by omega), if_pos hk]
      refine Used.make h hu n1 (o := o) (ps := []) (ks := m.mine o) ?_ (fun x => ?_) (fun x hx => .inl hx)
      · rw [(put_parts _ _ _ _).2.2.2.1]; rfl
      · exact hpc _ _ x
    · rw [if_neg (by omega), if_neg (by omega), if_neg (by omega), if_pos hk]
      exact hu
  · rw [hk] at hc
    simp at hc
    have n1 : m.ndl (gi o 2) (gi o 3) := ⟨hb, ha, f1⟩
    have n2 : m.ndl (gi o 4) (gi o 5) := ⟨hb2, ha2, f2⟩
    obtain ⟨-, -, hl⟩ := moveC_zero hc
    rw [if_neg (by omega), if_neg (by omega), if_neg (by omega), if_neg (by omega), if_pos hk]
    obtain ⟨-, hcn, -⟩ := h.moved n1 n2 hne hl
    exact hu.same (moved_parts m o).2.2.2.1 fun x => by rw [hcn]; exact Nat.le_refl _
  · have n1 : m.ndl (gi o 2) (gi o 3) := ⟨hb, ha, f1⟩
    have n2 : m.ndl (gi o 4) (gi o 5) := ⟨hb2, ha2, f2⟩
    have hcy : carryB m o = true := by
      cases e : carryB m o
      · rw [e, hk] at hc; simp at hc
      · rfl
    rw [hk, hcy] at hc
    simp at hc
    have hca := h.carried hcy n1
    have hmv : moveC m o = 0 := by
      rcases Nat.lt_or_ge m.lp.length 300 with q | q
      · rw [if_neg (by omega)] at hc; exact hc
      · rw [if_pos q] at hc; omega
    obtain ⟨-, -, hl⟩ := moveC_zero hmv
    rw [if_neg (by omega), if_neg (by omega), if_pos hk]
    obtain ⟨hmo, hcn, hme⟩ := hca.moved (o := o) n1 n2 hne hl
    have n1' : ((m.carried o).moved o).ndl (gi o 2) (gi o 3) := by
      have := (moved_parts (m.carried o) o).2.2.1
      exact ⟨hb, ha, by rw [this]; exact f1⟩
    have hlp0 : ((m.carried o).moved o).lp = m.lp := (moved_parts (m.carried o) o).2.2.2.1
    have huM : Used ((m.carried o).moved o) := hu.same hlp0 fun x => by rw [hcn]; exact Nat.le_refl _
    have hnM : ((m.carried o).moved o).n = m.n := by unfold Mac.n; rw [hlp0]
    refine Used.make hmo huM n1' (o := o) (ps := m.mine o) (ks := []) ?_ (fun x => ?_) (fun x hx => by rw [hme] at hx; simp at hx)
    · rw [(put_parts _ _ _ _).2.2.2.1]; rfl
    · have := OkM.put_cnt hmo (b := gi o 2) (a := gi o 3) n1' [m.n] x
      rw [List.nil_append, hnM]
      have e1 : ((((m.carried o).moved o).made o (m.mine o)).put (gi o 2) (gi o 3) [m.n]).cnt x = (((m.carried o).moved o).put (gi o 2) (gi o 3) [m.n]).cnt x := by
        rw [Mac.cnt_eq, Mac.cnt_eq]
        unfold Mac.put
        split <;> rfl
      rw [e1]
      exact this
  · rw [hk] at hc
    simp at hc
    have n1 : m.ndl (gi o 2) (gi o 3) := ⟨hb, ha, f1⟩
    rw [if_neg (by omega), if_neg (by omega), if_neg (by omega), if_neg (by omega), if_neg (by omega), if_pos hk]
    refine hu.same ((put_parts _ _ _ _).2.2.2.1) fun x => ?_
    have h1 := OkM.put_cnt h n1 [] x
    have h2 := dr_cnt (m.put (gi o 2) (gi o 3) []) (putAll m.dr (m.mine o)) x
    have e1 : (({ m with dr := putAll m.dr (m.mine o) } : Mac).put (gi o 2) (gi o 3) []) = (m.put (gi o 2) (gi o 3) []).withD (putAll m.dr (m.mine o)) := by
      unfold Mac.put
      split <;> rfl
    have e2 : (m.put (gi o 2) (gi o 3) []).dr = m.dr := (put_parts _ _ _ _).2.2.2.2.1
    rw [e2] at h2
    rw [e1]
    have h3 : (putAll m.dr (m.mine o)).count x = m.dr.count x + (m.mine o).count x := by
      exact putAll_cnt (fun y => h.drop_cnt n1 y) x
    have h5 : (m.mine o).count x = (m.on (gi o 2) (gi o 3)).count x := rfl
    simp only [List.count_nil] at h1
    omega
  · rw [if_neg (by omega), if_neg (by omega), if_neg (by omega), if_neg (by omega), if_neg (by omega), if_neg (by omega), if_pos hk]
    exact hu
  · rw [if_neg (by omega), if_neg (by omega), if_neg (by omega), if_neg (by omega), if_neg (by omega), if_neg (by omega), if_neg (by omega), if_pos hk]
    exact hu
  · rw [if_neg (by omega), if_neg (by omega), if_neg (by omega), if_neg (by omega), if_neg (by omega), if_neg (by omega), if_neg (by omega), if_neg (by omega)]
    exact hu
theorem Used.new (n : Int) : Used (newM n) := fun x h0 h1 => by simp [newM] at h1; omega
end Go.Proofs.YtgmppfhokfifgaaGreat
