/-
  Plain laws: numbers put to their places among rising ones (putI, putAll), and sorting.
-/
import Derived.Test.YtgmppfhokfifgaaGreatDoorBase
import Derived.Test.YtgmppfhokfifgaaGreatDoorOkd
import Derived.Test.YtgmppfhokfifgaaGreatDoorPo2
namespace Go.Proofs.YtgmppfhokfifgaaGreatDoor
set_option maxRecDepth 10000

/-- A number put to its place among rising ones, once. -/
def putI : List Int → Int → List Int
  | [], n => [n]
  | x :: xs, n => if n < x then n :: x :: xs else if x = n then x :: xs else x :: putI xs n
def putAll (dr xs : List Int) : List Int := xs.foldl putI dr
/-! ### putAll -/
theorem putI_cnt {dr : List Int} {n : Int} (hn : n ∉ dr) (x : Int) : (putI dr n).count x = dr.count x + [n].count x := by
  induction dr with
  | nil => simp [putI]
  | cons a l ih =>
    simp only [List.mem_cons, not_or] at hn
    have := ih hn.2
    unfold putI
    split
    · simp only [List.count_cons, List.count_nil]; omega
    · rw [if_neg (fun e => hn.1 e.symm)]
      simp only [List.count_cons, List.count_nil] at this ⊢
      omega
theorem putI_pair {dr : List Int} {n : Int} (h : dr.Pairwise (· < ·)) : (putI dr n).Pairwise (· < ·) := by
  induction dr with
  | nil => simp [putI]
  | cons a l ih =>
    rw [List.pairwise_cons] at h
    have mem : ∀ (l : List Int) (y : Int), y ∈ putI l n → y ∈ l ∨ y = n := by
      intro l
      induction l with
      | nil => intro y hy; simp [putI] at hy; exact .inr hy
      | cons b l ih =>
        intro y hy
        unfold putI at hy
        split at hy
        · simp at hy ⊢; rcases hy with rfl | rfl | hy <;> simp_all
        · split at hy
          · simp at hy ⊢; rcases hy with rfl | hy <;> simp_all
          · simp only [List.mem_cons] at hy ⊢
            rcases hy with rfl | hy
            · simp
            · rcases ih y hy with q | q
              · exact .inl (.inr q)
              · exact .inr q
    unfold putI
    split
    · rename_i hlt
      rw [List.pairwise_cons]
      refine ⟨fun y hy => ?_, List.pairwise_cons.2 h⟩
      simp only [List.mem_cons] at hy
      rcases hy with rfl | hy
      · exact hlt
      · have := h.1 y hy; omega
    · split
      · exact List.pairwise_cons.2 h
      · rw [List.pairwise_cons]
        refine ⟨fun y hy => ?_, ih h.2⟩
        rcases mem _ _ hy with q | rfl
        · exact h.1 y q
        · omega
theorem putAll_cnt {dr xs : List Int} (h : ∀ x, dr.count x + xs.count x ≤ 1) (x : Int) : (putAll dr xs).count x = dr.count x + xs.count x := by
  induction xs generalizing dr with
  | nil => simp [putAll]
  | cons a l ih =>
    have hn : a ∉ dr := fun hm => by
      have h1 := h a
      have h2 := List.count_pos_iff.2 hm
      simp only [List.count_cons, beq_self_eq_true, if_true] at h1
      omega
    have hc := putI_cnt hn
    have := ih (dr := putI dr a) (fun y => by have := h y; rw [hc]; simp only [List.count_cons, List.count_nil] at *; omega)
    unfold putAll at this ⊢
    rw [List.foldl_cons, this, hc]
    simp only [List.count_cons, List.count_nil]
    omega
theorem putAll_pair {dr xs : List Int} (h : dr.Pairwise (· < ·)) : (putAll dr xs).Pairwise (· < ·) := by
  induction xs generalizing dr with
  | nil => exact h
  | cons a l ih => unfold putAll; rw [List.foldl_cons]; exact ih (putI_pair h)
theorem putI_mem {l : List Int} {n y : Int} : y ∈ putI l n ↔ y ∈ l ∨ y = n := by
  induction l with
  | nil => simp [putI]
  | cons b l ih =>
    unfold putI
    split
    · simp only [List.mem_cons]; exact Or.comm
    · split
      · rename_i e; simp only [List.mem_cons]; constructor
        · intro h; exact .inl h
        · intro h; rcases h with h | h
          · exact h
          · exact .inl (by rw [h, e])
      · simp only [List.mem_cons, ih]; exact or_assoc.symm
theorem putAll_mem {l xs : List Int} {y : Int} : y ∈ putAll l xs ↔ y ∈ l ∨ y ∈ xs := by
  induction xs generalizing l with
  | nil => simp [putAll]
  | cons a t ih =>
    have := ih (l := putI l a)
    unfold putAll at this ⊢
    rw [List.foldl_cons, this, putI_mem, List.mem_cons]
    exact or_assoc
theorem putI_len (l : List Int) (n : Int) : (putI l n).length ≤ l.length + 1 := by
  induction l with
  | nil => simp [putI]
  | cons a t ih => unfold putI; split <;> (try split) <;> simp <;> omega
end Go.Proofs.YtgmppfhokfifgaaGreatDoor
/-
  Plain laws of machines: a valid machine in words (OkM), what an operation does (codeM, stepM), and that it leaves a valid machine (stepM_ok). No program in sight.
-/
namespace Go.Proofs.YtgmppfhokfifgaaGreatDoor
set_option maxRecDepth 10000

/-! ### The numbers on needles and off them -/
theorem hasI_mem {xs : List Int} {k : Int} : hasI xs k = true ↔ k ∈ xs := by
  rw [hasI, List.any_eq_true]
  constructor
  · rintro ⟨x, hx, e⟩
    have : x = k := by simpa using e
    rw [← this]; exact hx
  · intro h; exact ⟨k, h, by simp⟩
theorem nodup_take {xs : List Int} : xs.Nodup ↔ ∀ i, i < xs.length → gi xs i ∉ xs.take i := by
  constructor
  · intro h i hi hm
    obtain ⟨j, hj, e⟩ := List.getElem_of_mem hm
    have hj2 : j < i := by simp at hj; omega
    rw [List.getElem_take, gi_eq hi] at e
    rw [List.Nodup, List.pairwise_iff_getElem] at h
    exact h j i (by omega) hi hj2 e
  · intro h
    rw [List.Nodup, List.pairwise_iff_getElem]
    intro i j hi hj hij e
    refine h j hj ?_
    rw [gi_eq hj, ← e]
    have hti : i < (xs.take j).length := by simp; omega
    have := List.getElem_mem hti
    rwa [List.getElem_take] at this
theorem parsB_iff {n : Int} {ps : List Int} : parsB n ps = true ↔ (∀ x ∈ ps, 0 ≤ x ∧ x < n) ∧ ps.Nodup := by
  rw [parsB, List.all_eq_true]
  simp only [List.mem_range, parB, Bool.and_eq_true, inR_iff, Bool.not_eq_true']
  constructor
  · intro h
    refine ⟨fun x hx => ?_, nodup_take.2 fun i hi hm => ?_⟩
    · obtain ⟨j, hj, rfl⟩ := List.getElem_of_mem hx
      have := (h j hj).1
      rw [gi_eq hj] at this
      omega
    · have := (h i hi).2
      rw [hasI_mem.2 hm] at this; cases this
  · intro ⟨h1, h2⟩ i hi
    have := h1 _ (gi_mem hi)
    refine ⟨by omega, ?_⟩
    rw [← Bool.not_eq_true]
    exact fun e => nodup_take.1 h2 i hi (hasI_mem.1 e)
/-- A valid machine, in words. -/
structure OkM (m : Mac) : Prop where
  wd : 1 ≤ m.wd ∧ m.wd ≤ 24
  rk : -3 ≤ m.rk ∧ m.rk ≤ 3
  fr : (m.fr.length : Int) = m.wd
  bk : (m.bk.length : Int) = m.wd
  cr : m.cr.length = 4
  lp : m.lp.length ≤ 300
  cs : ∀ c ∈ m.cr, crOk m.wd c = true
  inf : ∀ k, k < m.lp.length → infI m.wd m.lp k = true
  sf : ∀ xs ∈ m.fr, xs.length ≤ 4
  sb : ∀ xs ∈ m.bk, xs.length ≤ 4
  dr : m.dr.Pairwise (· < ·)
  rng : ∀ x ∈ allM m, 0 ≤ x ∧ x < m.lp.length
  nd : (allM m).Nodup
/-! ### What an operation does -/
def Mac.sd (m : Mac) (b : Int) : List (List Int) := if b = 2 then m.bk else m.fr
def Mac.on (m : Mac) (b a : Int) : List Int := gl (m.sd b) a.toNat
def Mac.put (m : Mac) (b a : Int) (xs : List Int) : Mac := if b = 2 then { m with bk := m.bk.set a.toNat xs } else { m with fr := m.fr.set a.toNat xs }
def plc (b a rk : Int) : Int := if b = 2 then a + rk else a
def Mac.car (m : Mac) (o : List Int) : Bool × Int := gc m.cr (gi o 6 - 1).toNat
def Mac.setC (m : Mac) (o : List Int) (c : Bool × Int) : Mac := { m with cr := m.cr.set (gi o 6 - 1).toNat c }
def carryB (m : Mac) (o : List Int) : Bool :=
  (m.car o).1 && !(decide (gi o 1 = 1) && decide (plc (gi o 2) (gi o 3) m.rk < (m.car o).2)) && !(decide (gi o 1 = -1) && decide ((m.car o).2 < plc (gi o 2) (gi o 3) m.rk + 1))
def carryAt (m : Mac) (o : List Int) : Int := if gi o 1 = 1 then plc (gi o 2) (gi o 3) m.rk + 1 else plc (gi o 2) (gi o 3) m.rk
def Mac.carried (m : Mac) (o : List Int) : Mac := m.setC o ((m.car o).1, carryAt m o)
def infoO (o ps : List Int) : List Int := gi o 0 :: gi o 6 :: gi o 2 :: gi o 3 :: gi o 1 :: ps
def Mac.made (m : Mac) (o ps : List Int) : Mac := { m with lp := m.lp ++ [infoO o ps] }
def Mac.mine (m : Mac) (o : List Int) : List Int := m.on (gi o 2) (gi o 3)
def Mac.other (m : Mac) (o : List Int) : List Int := m.on (gi o 4) (gi o 5)
def Mac.n (m : Mac) : Int := m.lp.length
def moveC (m : Mac) (o : List Int) : Int :=
  if plc (gi o 2) (gi o 3) m.rk ≠ plc (gi o 4) (gi o 5) m.rk then 8 else if (m.mine o).length = 0 then 7 else if 4 < (m.mine o).length + (m.other o).length then 5 else 0
def Mac.joined (m : Mac) (o : List Int) : List Int := if gi o 4 = 2 then m.mine o ++ m.other o else m.other o ++ m.mine o
def Mac.moved (m : Mac) (o : List Int) : Mac := (m.put (gi o 4) (gi o 5) (m.joined o)).put (gi o 2) (gi o 3) []
def codeM (m : Mac) (o : List Int) : Int :=
  if gi o 0 = 1 ∨ gi o 0 = 2 ∨ gi o 0 = 5 then
    (if carryB m o = false then 9 else if 300 ≤ m.lp.length then 5 else if gi o 0 = 2 then (if 4 ≤ (m.mine o).length then 5 else 0) else if gi o 0 = 5 then moveC m o else 0)
  else if gi o 0 = 3 then (if carryB m o = false then 9 else 0)
  else if gi o 0 = 4 then moveC m o
  else if gi o 0 = 6 then (if (m.mine o).length = 0 then 7 else 0)
  else if gi o 0 = 7 then 0
  else if (m.car o).1 = decide (gi o 0 = 8) then 9 else 0
def stepM (m : Mac) (o : List Int) : Mac :=
  if gi o 0 = 1 then ((m.carried o).made o (m.mine o)).put (gi o 2) (gi o 3) [m.n]
  else if gi o 0 = 2 then ((m.carried o).made o []).put (gi o 2) (gi o 3) (m.mine o ++ [m.n])
  else if gi o 0 = 5 then (((m.carried o).moved o).made o (m.mine o)).put (gi o 2) (gi o 3) [m.n]
  else if gi o 0 = 3 then m.carried o
  else if gi o 0 = 4 then m.moved o
  else if gi o 0 = 6 then ({ m with dr := putAll m.dr (m.mine o) } : Mac).put (gi o 2) (gi o 3) []
  else if gi o 0 = 7 then { m with rk := gi o 7 }
  else if gi o 0 = 8 then m.setC o (true, if gi o 1 = -1 then m.wd + 3 else -3)
  else m.setC o (false, 0)
/-! ### An operation that is executed leaves a valid machine -/
theorem flat_cnt {L : List (List Int)} {k : Nat} (hk : k < L.length) (ys : List Int) (x : Int) : (L.set k ys).flatten.count x + (gl L k).count x = L.flatten.count x + ys.count x := by
  induction L generalizing k with
  | nil => simp at hk
  | cons a l ih =>
    cases k with
    | zero => simp [gl, List.count_append]; omega
    | succ k =>
      have := ih (k := k) (by simpa using hk)
      simp only [gl, List.set_cons_succ, List.flatten_cons, List.count_append, List.getD_cons_succ] at this ⊢
      omega
def Mac.cnt (m : Mac) (x : Int) : Nat := (allM m).count x
theorem Mac.cnt_eq (m : Mac) (x : Int) : m.cnt x = m.fr.flatten.count x + m.bk.flatten.count x + m.dr.count x := by simp [Mac.cnt, allM, List.count_append, Nat.add_assoc]
/-- A needle is one of the machine's. -/
def Mac.ndl (m : Mac) (b a : Int) : Prop := (b = 1 ∨ b = 2) ∧ 0 ≤ a ∧ a < m.wd
theorem OkM.sdlt {m : Mac} (h : OkM m) {b a : Int} (hn : m.ndl b a) : a.toNat < (m.sd b).length := by
  have h1 := h.fr
  have h2 := h.bk
  obtain ⟨-, h3, h4⟩ := hn
  unfold Mac.sd
  split <;> omega
theorem OkM.put_cnt {m : Mac} (h : OkM m) {b a : Int} (hn : m.ndl b a) (ys : List Int) (x : Int) : (m.put b a ys).cnt x + (m.on b a).count x = m.cnt x + ys.count x := by
  have hl := h.sdlt hn
  rw [Mac.cnt_eq, Mac.cnt_eq]
  unfold Mac.put Mac.on
  unfold Mac.sd at hl ⊢
  split
  · rename_i e
    rw [if_pos e] at hl
    have := flat_cnt hl ys x
    simp only
    omega
  · rename_i e
    rw [if_neg e] at hl
    have := flat_cnt hl ys x
    simp only
    omega
theorem nodup_cnt {xs : List Int} : xs.Nodup ↔ ∀ x, xs.count x ≤ 1 := List.nodup_iff_count
theorem OkM.cnt_le {m : Mac} (h : OkM m) (x : Int) : m.cnt x ≤ 1 := nodup_cnt.1 h.nd x
theorem cnt_mem {m : Mac} {x : Int} : x ∈ allM m ↔ 0 < m.cnt x := by unfold Mac.cnt; exact List.count_pos_iff.symm
theorem put_parts (m : Mac) (b a : Int) (ys : List Int) : (m.put b a ys).wd = m.wd ∧ (m.put b a ys).rk = m.rk ∧ (m.put b a ys).cr = m.cr ∧ (m.put b a ys).lp = m.lp ∧ (m.put b a ys).dr = m.dr ∧ (m.put b a ys).fr.length = m.fr.length ∧ (m.put b a ys).bk.length = m.bk.length := by
  unfold Mac.put; split <;> simp
theorem OkM.put {m : Mac} (h : OkM m) {b a : Int} (hn : m.ndl b a) {ys : List Int} (hl : ys.length ≤ 4) (hr : ∀ x ∈ ys, 0 ≤ x ∧ x < m.lp.length) (hc : ∀ x, m.cnt x + ys.count x ≤ 1 + (m.on b a).count x) : OkM (m.put b a ys) := by
  obtain ⟨p1, p2, p3, p4, p5, p6, p7⟩ := put_parts m b a ys
  have hcn := h.put_cnt hn ys
  refine ⟨by rw [p1]; exact h.wd, by rw [p2]; exact h.rk, by rw [p1, p6]; exact h.fr, by rw [p1, p7]; exact h.bk, by rw [p3]; exact h.cr, by rw [p4]; exact h.lp, by rw [p1, p3]; exact h.cs, by rw [p1, p4]; exact h.inf, ?_, ?_, by rw [p5]; exact h.dr, ?_, ?_⟩
  · unfold Mac.put; split
    · exact h.sf
    · intro xs hx
      rcases List.mem_or_eq_of_mem_set hx with hx | rfl
      · exact h.sf xs hx
      · exact hl
  · unfold Mac.put; split
    · intro xs hx
      rcases List.mem_or_eq_of_mem_set hx with hx | rfl
      · exact h.sb xs hx
      · exact hl
    · exact h.sb
  · intro x hx
    rw [cnt_mem] at hx
    have := hcn x
    rw [p4]
    by_cases hm : x ∈ ys
    · exact hr x hm
    · rw [List.count_eq_zero.2 hm] at this
      exact h.rng x (cnt_mem.2 (by omega))
  · rw [nodup_cnt]
    intro x
    have h1 := hcn x
    have h2 := hc x
    show (m.put b a ys).cnt x ≤ 1
    omega
theorem OkM.clear {m : Mac} (h : OkM m) {b a : Int} (hn : m.ndl b a) : OkM (m.put b a []) :=
  h.put hn (by simp) (by simp) fun x => by have := h.cnt_le x; simp; omega
theorem on_put_other (m : Mac) {b b' a a' : Int} (hb : b ≠ b') (h1 : b = 1 ∨ b = 2) (h2 : b' = 1 ∨ b' = 2) (ys : List Int) : (m.put b a ys).on b' a' = m.on b' a' := by
  unfold Mac.put Mac.on Mac.sd
  rcases h1 with rfl | rfl <;> rcases h2 with rfl | rfl <;> simp_all
theorem put_comm (m : Mac) {b b' a a' : Int} (hb : b ≠ b') (h1 : b = 1 ∨ b = 2) (h2 : b' = 1 ∨ b' = 2) (ys zs : List Int) : (m.put b a ys).put b' a' zs = (m.put b' a' zs).put b a ys := by
  unfold Mac.put
  rcases h1 with rfl | rfl <;> rcases h2 with rfl | rfl <;> simp_all
theorem OkM.setC {m : Mac} (h : OkM m) {o : List Int} {c : Bool × Int} (hc : crOk m.wd c = true) : OkM (m.setC o c) :=
  ⟨h.wd, h.rk, h.fr, h.bk, by simp only [Mac.setC, List.length_set]; exact h.cr, h.lp, fun x hx => by
    rcases List.mem_or_eq_of_mem_set hx with hx | rfl
    · exact h.cs x hx
    · exact hc, h.inf, h.sf, h.sb, h.dr, h.rng, h.nd⟩
theorem gl_left {L R : List (List Int)} {k : Nat} (hk : k < L.length) : gl (L ++ R) k = gl L k := by
  rw [gl_eq (by rw [List.length_append]; omega), gl_eq hk, List.getElem_append_left hk]
theorem gl_last (L : List (List Int)) (o : List Int) : gl (L ++ [o]) L.length = o := by
  rw [gl_eq (by simp)]; simp
theorem OkM.made {m : Mac} (h : OkM m) {o ps : List Int} (hl : m.lp.length < 300) (hi : infB m.wd m.lp.length (gi o 0) (gi o 6) (gi o 2) (gi o 3) (gi o 1) ps = true) : OkM (m.made o ps) :=
  ⟨h.wd, h.rk, h.fr, h.bk, h.cr, by simp only [Mac.made, List.length_append, List.length_cons, List.length_nil]; omega, h.cs, fun k hk => by
    simp only [Mac.made, List.length_append, List.length_cons, List.length_nil] at hk ⊢
    by_cases hkl : k < m.lp.length
    · have := h.inf k hkl
      unfold infI at this ⊢
      rwa [gl_left hkl]
    · obtain rfl : k = m.lp.length := by omega
      unfold infI
      rw [gl_last]
      exact hi, h.sf, h.sb, h.dr, fun x hx => by
    have := h.rng x hx
    simp only [Mac.made, List.length_append, List.length_cons, List.length_nil]
    omega, h.nd⟩
theorem OkM.fresh {m : Mac} (h : OkM m) : m.cnt m.n = 0 := by
  unfold Mac.cnt
  rw [List.count_eq_zero]
  intro hm
  have := h.rng _ hm
  unfold Mac.n at this
  omega
theorem count_le_of {m : Mac} (h : OkM m) {b a : Int} (hn : m.ndl b a) (x : Int) : (m.on b a).count x ≤ m.cnt x := by
  have hl := h.sdlt hn
  rw [Mac.cnt_eq]
  have key : ∀ (L : List (List Int)) (k : Nat), k < L.length → (gl L k).count x ≤ L.flatten.count x := fun L k hk => by have := flat_cnt hk [] x; simp at this; omega
  unfold Mac.on
  unfold Mac.sd at hl ⊢
  split
  · rename_i e
    rw [if_pos e] at hl
    have := key _ _ hl; omega
  · rename_i e
    rw [if_neg e] at hl
    have := key _ _ hl; omega
theorem on_mem {m : Mac} (h : OkM m) {b a : Int} (hn : m.ndl b a) {x : Int} (hx : x ∈ m.on b a) : x ∈ allM m := by
  have := count_le_of h hn x
  have := List.count_pos_iff.2 hx
  exact cnt_mem.2 (by omega)
theorem on_nodup {m : Mac} (h : OkM m) {b a : Int} (hn : m.ndl b a) : (m.on b a).Nodup := by
  rw [nodup_cnt]; intro x
  have := count_le_of h hn x
  have := h.cnt_le x
  omega
theorem on_len {m : Mac} (h : OkM m) {b a : Int} (hn : m.ndl b a) : (m.on b a).length ≤ 4 := by
  have hl := h.sdlt hn
  unfold Mac.on
  unfold Mac.sd at hl ⊢
  split
  · rename_i e
    rw [if_pos e] at hl
    exact h.sb _ (gl_mem hl)
  · rename_i e
    rw [if_neg e] at hl
    exact h.sf _ (gl_mem hl)
theorem on_put_self (m : Mac) (h : OkM m) {b a : Int} (hn : m.ndl b a) (ys : List Int) : (m.put b a ys).on b a = ys := by
  have hl := h.sdlt hn
  unfold Mac.put Mac.on
  unfold Mac.sd at hl ⊢
  split
  · rename_i e
    rw [if_pos e] at hl
    exact gl_set hl _
  · rename_i e
    rw [if_neg e] at hl
    exact gl_set hl _
/-! ### An operation's parts -/
def pur (x : Int) : Prop := x = 1 ∨ x = -1
theorem op_form {o : List Int} (h : opB o = true) :
    (((gi o 0 = 1 ∨ gi o 0 = 2 ∨ gi o 0 = 3) ∧ pur (gi o 1) ∧ (gi o 2 = 1 ∨ gi o 2 = 2) ∧ 0 ≤ gi o 3 ∧ 1 ≤ gi o 6 ∧ gi o 6 ≤ 4) ∨
     (gi o 0 = 4 ∧ (gi o 2 = 1 ∨ gi o 2 = 2) ∧ 0 ≤ gi o 3 ∧ (gi o 4 = 1 ∨ gi o 4 = 2) ∧ 0 ≤ gi o 5 ∧ gi o 2 ≠ gi o 4) ∨
     (gi o 0 = 5 ∧ (gi o 2 = 1 ∨ gi o 2 = 2) ∧ 0 ≤ gi o 3 ∧ (gi o 4 = 1 ∨ gi o 4 = 2) ∧ 0 ≤ gi o 5 ∧ gi o 2 ≠ gi o 4 ∧ pur (gi o 1) ∧ 1 ≤ gi o 6 ∧ gi o 6 ≤ 4) ∨
     (gi o 0 = 6 ∧ (gi o 2 = 1 ∨ gi o 2 = 2) ∧ 0 ≤ gi o 3) ∨
     (gi o 0 = 7 ∧ -3 ≤ gi o 7 ∧ gi o 7 ≤ 3) ∨
     (gi o 0 = 8 ∧ pur (gi o 1) ∧ 1 ≤ gi o 6 ∧ gi o 6 ≤ 4) ∨
     (gi o 0 = 9 ∧ 1 ≤ gi o 6 ∧ gi o 6 ≤ 4)) := by
  unfold opB at h
  generalize gi o 0 = k at *
  generalize gi o 1 = d at *
  generalize gi o 2 = fb at *
  generalize gi o 3 = fa at *
  generalize gi o 4 = tb at *
  generalize gi o 5 = ta at *
  generalize gi o 6 = c at *
  generalize gi o 7 = r at *
  unfold vOp at h
  unfold pur
  split at h
  · simp only [Bool.and_eq_true, dirB, ndlB, bedB, inR_iff, beq_iff_eq, Bool.or_eq_true] at h
    exact .inl (by omega)
  · split at h
    · simp only [Bool.and_eq_true, pairB, ndlB, bedB, inR_iff, beq_iff_eq, Bool.or_eq_true, bne_iff_ne] at h
      exact .inr (.inl (by omega))
    · split at h
      · simp only [Bool.and_eq_true, pairB, ndlB, bedB, dirB, inR_iff, beq_iff_eq, Bool.or_eq_true, bne_iff_ne] at h
        exact .inr (.inr (.inl (by omega)))
      · split at h
        · simp only [Bool.and_eq_true, ndlB, bedB, inR_iff, beq_iff_eq, Bool.or_eq_true] at h
          exact .inr (.inr (.inr (.inl (by omega))))
        · split at h
          · simp only [Bool.and_eq_true, inR_iff, beq_iff_eq] at h
            exact .inr (.inr (.inr (.inr (.inl (by omega)))))
          · split at h
            · simp only [Bool.and_eq_true, dirB, inR_iff, beq_iff_eq, Bool.or_eq_true] at h
              exact .inr (.inr (.inr (.inr (.inr (.inl (by omega))))))
            · split at h
              · simp only [Bool.and_eq_true, inR_iff, beq_iff_eq] at h
                exact .inr (.inr (.inr (.inr (.inr (.inr (by omega))))))
              · cases h
/-- The fits of an operation. -/
def fits (m : Mac) (o : List Int) : Prop := gi o 3 < m.wd ∧ gi o 5 < m.wd
theorem moveC_zero {m : Mac} {o : List Int} (h : moveC m o = 0) : plc (gi o 2) (gi o 3) m.rk = plc (gi o 4) (gi o 5) m.rk ∧ 0 < (m.mine o).length ∧ (m.mine o).length + (m.other o).length ≤ 4 := by
  unfold moveC at h
  by_cases h1 : plc (gi o 2) (gi o 3) m.rk ≠ plc (gi o 4) (gi o 5) m.rk
  · rw [if_pos h1] at h; omega
  · rw [if_neg h1] at h
    by_cases h2 : (m.mine o).length = 0
    · rw [if_pos h2] at h; omega
    · rw [if_neg h2] at h
      by_cases h3 : 4 < (m.mine o).length + (m.other o).length
      · rw [if_pos h3] at h; omega
      · exact ⟨by simpa using h1, by omega, by omega⟩
theorem joined_len (m : Mac) (o : List Int) : (m.joined o).length = (m.mine o).length + (m.other o).length := by
  unfold Mac.joined; split <;> simp <;> omega
theorem joined_cnt (m : Mac) (o : List Int) (x : Int) : (m.joined o).count x = (m.mine o).count x + (m.other o).count x := by
  unfold Mac.joined; split <;> simp [List.count_append] <;> omega
theorem OkM.moved {m : Mac} (h : OkM m) {o : List Int} (h1 : m.ndl (gi o 2) (gi o 3)) (h2 : m.ndl (gi o 4) (gi o 5)) (hne : gi o 2 ≠ gi o 4) (hl : (m.mine o).length + (m.other o).length ≤ 4) : OkM (m.moved o) ∧ (∀ x, (m.moved o).cnt x = m.cnt x) ∧ (m.moved o).mine o = [] := by
  unfold Mac.moved
  rw [put_comm m (Ne.symm hne) h2.1 h1.1]
  have hc := h.clear h1
  obtain ⟨p1, p2, p3, p4, p5, p6, p7⟩ := put_parts m (gi o 2) (gi o 3) []
  have hn2 : (m.put (gi o 2) (gi o 3) []).ndl (gi o 4) (gi o 5) := ⟨h2.1, h2.2.1, by rw [p1]; exact h2.2.2⟩
  have e2 : (m.put (gi o 2) (gi o 3) []).on (gi o 4) (gi o 5) = m.other o := on_put_other m hne h1.1 h2.1 []
  have c1 : ∀ x, (m.put (gi o 2) (gi o 3) []).cnt x + (m.mine o).count x = m.cnt x := fun x => by have := h.put_cnt h1 [] x; simp only [List.count_nil, Nat.add_zero] at this; exact this
  have hok : OkM ((m.put (gi o 2) (gi o 3) []).put (gi o 4) (gi o 5) (m.joined o)) := by
    refine hc.put hn2 (by rw [joined_len]; exact hl) (fun x hx => ?_) fun x => ?_
    · rw [p4]
      have : x ∈ m.mine o ∨ x ∈ m.other o := by
        unfold Mac.joined at hx; split at hx <;> (rw [List.mem_append] at hx); exact hx; exact hx.symm
      rcases this with q | q
      · exact h.rng x (on_mem h h1 q)
      · exact h.rng x (on_mem h h2 q)
    · rw [e2, joined_cnt]
      have := c1 x
      have := h.cnt_le x
      omega
  refine ⟨hok, fun x => ?_, ?_⟩
  · have a1 := hc.put_cnt hn2 (m.joined o) x
    have a2 := c1 x
    rw [e2, joined_cnt] at a1
    omega
  · unfold Mac.mine
    rw [on_put_other _ (Ne.symm hne) h2.1 h1.1]
    exact on_put_self m h h1 []
theorem carryB_in {m : Mac} {o : List Int} (h : carryB m o = true) : (m.car o).1 = true := by
  simp only [carryB, Bool.and_eq_true] at h; exact h.1.1
theorem OkM.carried {m : Mac} (h : OkM m) {o : List Int} (hb : carryB m o = true) (h1 : (gi o 2 = 1 ∨ gi o 2 = 2) ∧ 0 ≤ gi o 3 ∧ gi o 3 < m.wd) : OkM (m.carried o) := by
  refine h.setC ?_
  have hr := h.rk
  simp only [crOk, carryB_in hb, Bool.true_or, Bool.and_true, inR_iff, carryAt, plc]
  split <;> split <;> omega
/-- What is asked of an operation: valid, and fits. -/
structure OpOk (m : Mac) (o : List Int) : Prop where
  op : opB o = true
  f1 : gi o 3 < m.wd
  f2 : gi o 5 < m.wd
theorem dir_of {d : Int} (h : pur d) : dirB d = true := by unfold pur at h; simp [dirB]; exact h
theorem infB_new {wd n k c b a d : Int} {ps : List Int} (hk : k = 1 ∨ k = 2 ∨ k = 5) (hc : 1 ≤ c ∧ c ≤ 4) (hb : b = 1 ∨ b = 2) (ha : 0 ≤ a ∧ a < wd) (hd : pur d) (hl : ps.length ≤ 4) (hp : parsB n ps = true) (h2 : k = 2 → ps = []) (h5 : k = 5 → 0 < ps.length) : infB wd n k c b a d ps = true := by
  simp only [infB, Bool.and_eq_true, kindB, bedB, Bool.or_eq_true, beq_iff_eq, inR_iff, dir_of hd, decide_eq_true_eq, hp, bne_iff_ne, ne_eq]
  refine ⟨⟨⟨⟨⟨⟨⟨⟨by omega, hc⟩, hb⟩, by omega⟩, trivial⟩, hl⟩, trivial⟩, ?_⟩, ?_⟩
  · by_cases e : k = 2
    · right; rw [h2 e]; rfl
    · left; exact e
  · by_cases e : k = 5
    · right; exact h5 e
    · left; exact e
theorem mine_pars {m : Mac} (h : OkM m) {b a : Int} (hn : m.ndl b a) : parsB m.lp.length (m.on b a) = true :=
  parsB_iff.2 ⟨fun x hx => h.rng x (on_mem h hn hx), on_nodup h hn⟩
theorem stepM_ok {m : Mac} (h : OkM m) {o : List Int} (ho : OpOk m o) (hc : codeM m o = 0) : OkM (stepM m o) := by
  have hf := op_form ho.op
  have f1 := ho.f1
  have f2 := ho.f2
  unfold codeM at hc
  unfold stepM
  rcases hf with ⟨hk, hd, hb, ha, c1, c2⟩ | ⟨hk, hb, ha, hb2, ha2, hne⟩ | ⟨hk, hb, ha, hb2, ha2, hne, hd, c1, c2⟩ | ⟨hk, hb, ha⟩ | ⟨hk, r1, r2⟩ | ⟨hk, hd, c1, c2⟩ | ⟨hk, c1, c2⟩
  · have hn : m.ndl (gi o 2) (gi o 3) := ⟨hb, ha, f1⟩
    have hcy : carryB m o = true := by
      cases e : carryB m o
      · rw [e] at hc; simp at hc; rcases hk with hk | hk | hk <;> rw [hk] at hc <;> simp at hc
      · rfl
    have hca := h.carried hcy hn
    rcases hk with hk | hk | hk
    · rw [hk, hcy] at hc
      simp at hc
      rw [if_pos hk]
      have hl : m.lp.length < 300 := by omega
      have hma : OkM ((m.carried o).made o (m.mine o)) := hca.made hl (infB_new (by omega) ⟨c1, c2⟩ hb ⟨ha, f1⟩ hd (on_len h hn) (mine_pars h hn) (fun e => by omega) (fun e => by omega))
      refine hma.put hn (by simp) (fun x hx => ?_) fun x => ?_
      · simp at hx; subst hx
        simp [Mac.n, Mac.made, Mac.carried, Mac.setC]
        omega
      · have h1 : ((m.carried o).made o (m.mine o)).cnt x = m.cnt x := rfl
        have h2 := h.fresh
        have h3 := h.cnt_le x
        rw [h1]
        by_cases e : x = m.n
        · subst e; rw [h2]; simp
        · rw [List.count_eq_zero.2 (fun hm : x ∈ [m.n] => e (by simpa using hm))]; omega
    · rw [hk, hcy] at hc
      simp at hc
      rw [if_neg (by omega), if_pos hk]
      have hl : m.lp.length < 300 := by
        rcases Nat.lt_or_ge m.lp.length 300 with q | q
        · exact q
        · rw [if_pos q] at hc; omega
      rw [if_neg (by omega)] at hc
      have hl4 : (m.mine o).length < 4 := by
        rcases Nat.lt_or_ge (m.mine o).length 4 with q | q
        · exact q
        · have := hc; omega
      have hma : OkM ((m.carried o).made o []) := hca.made hl (infB_new (by omega) ⟨c1, c2⟩ hb ⟨ha, f1⟩ hd (by simp) rfl (fun _ => rfl) (fun e => by omega))
      refine hma.put hn (by simp; omega) (fun x hx => ?_) fun x => ?_
      · have hlen : ((m.carried o).made o []).lp.length = m.lp.length + 1 := by simp [Mac.made, Mac.carried, Mac.setC]
        rw [hlen]
        rw [List.mem_append] at hx
        rcases hx with hx | hx
        · have := h.rng x (on_mem h hn hx); omega
        · simp at hx; subst hx; unfold Mac.n; omega
      · have h1 : ((m.carried o).made o []).cnt x = m.cnt x := rfl
        have h4 : ((m.carried o).made o []).on (gi o 2) (gi o 3) = m.mine o := rfl
        have h2 := h.fresh
        have h3 := h.cnt_le x
        rw [h1, h4, List.count_append]
        by_cases e : x = m.n
        · subst e; rw [h2]; simp; omega
        · rw [List.count_eq_zero.2 (fun hm : x ∈ [m.n] => e (by simpa using hm))]; omega
    · rw [if_neg (by omega), if_neg (by omega), if_neg (by omega), if_pos hk]
      exact hca
  · rw [if_neg (by omega), if_neg (by omega), if_pos hk] at hc
    rw [if_neg (by omega), if_neg (by omega), if_neg (by omega), if_neg (by omega), if_pos hk]
    exact (h.moved ⟨hb, ha, f1⟩ ⟨hb2, ha2, f2⟩ hne (moveC_zero hc).2.2).1
  · rw [if_pos (by omega)] at hc
    have hcy : carryB m o = true := by
      cases e : carryB m o
      · rw [e] at hc; simp at hc
      · rfl
    rw [hcy] at hc
    rw [if_neg (by simp)] at hc
    have hl : m.lp.length < 300 := by
      rcases Nat.lt_or_ge m.lp.length 300 with q | q
      · exact q
      · rw [if_pos q] at hc; omega
    rw [if_neg (by omega), if_neg (by omega), if_pos hk] at hc
    rw [if_neg (by omega), if_neg (by omega), if_pos hk]
    have hn : m.ndl (gi o 2) (gi o 3) := ⟨hb, ha, f1⟩
    have hca := h.carried hcy hn
    obtain ⟨z1, z2, z3⟩ := moveC_zero hc
    obtain ⟨g1, g2, g3⟩ := hca.moved (o := o) hn ⟨hb2, ha2, f2⟩ hne z3
    have hma : OkM (((m.carried o).moved o).made o (m.mine o)) := by
      have hlen : ((m.carried o).moved o).lp.length = m.lp.length := by
        unfold Mac.moved
        rw [(put_parts _ _ _ _).2.2.2.1, (put_parts _ _ _ _).2.2.2.1]; rfl
      have hwd : ((m.carried o).moved o).wd = m.wd := by
        unfold Mac.moved
        rw [(put_parts _ _ _ _).1, (put_parts _ _ _ _).1]; rfl
      refine g1.made (by rw [hlen]; exact hl) ?_
      rw [hwd, hlen]
      exact infB_new (by omega) ⟨c1, c2⟩ hb ⟨ha, f1⟩ hd (on_len h hn) (mine_pars h hn) (fun e => by omega) (fun _ => z2)
    have hlen : (((m.carried o).moved o).made o (m.mine o)).lp.length = m.lp.length + 1 := by
      have : ((m.carried o).moved o).lp.length = m.lp.length := by
        unfold Mac.moved
        rw [(put_parts _ _ _ _).2.2.2.1, (put_parts _ _ _ _).2.2.2.1]; rfl
      simp [Mac.made, this]
    have hwd : (((m.carried o).moved o).made o (m.mine o)).wd = m.wd := by
      show ((m.carried o).moved o).wd = m.wd
      unfold Mac.moved
      rw [(put_parts _ _ _ _).1, (put_parts _ _ _ _).1]; rfl
    refine hma.put ⟨hb, ha, by rw [hwd]; exact f1⟩ (by simp) (fun x hx => ?_) fun x => ?_
    · simp at hx; subst hx
      rw [hlen]; unfold Mac.n; omega
    · have h1 : (((m.carried o).moved o).made o (m.mine o)).cnt x = m.cnt x := g2 x
      have h2 := h.fresh
      have h3 := h.cnt_le x
      rw [h1]
      by_cases e : x = m.n
      · subst e; rw [h2]; simp
      · rw [List.count_eq_zero.2 (fun hm : x ∈ [m.n] => e (by simpa using hm))]; omega
  · rw [if_neg (by omega), if_neg (by omega), if_neg (by omega), if_neg (by omega), if_neg (by omega), if_pos hk]
    have hn : m.ndl (gi o 2) (gi o 3) := ⟨hb, ha, f1⟩
    have hcl := h.clear hn
    have hcc := fun x => h.put_cnt hn [] x
    obtain ⟨p1, p2, p3, p4, p5, p6, p7⟩ := put_parts m (gi o 2) (gi o 3) []
    have hle : ∀ x, m.dr.count x + (m.mine o).count x ≤ 1 := fun x => by
      have a1 := hcc x
      have a2 := h.cnt_le x
      have a3 := Mac.cnt_eq (m.put (gi o 2) (gi o 3) []) x
      rw [p5] at a3
      simp at a1
      unfold Mac.mine
      omega
    have hpc := putAll_cnt hle
    have e : ({ m with dr := putAll m.dr (m.mine o) } : Mac).put (gi o 2) (gi o 3) [] = { (m.put (gi o 2) (gi o 3) []) with dr := putAll m.dr (m.mine o) } := by
      unfold Mac.put; split <;> rfl
    rw [e]
    have hcn : ∀ x, ({ (m.put (gi o 2) (gi o 3) []) with dr := putAll m.dr (m.mine o) } : Mac).cnt x = m.cnt x := fun x => by
      rw [Mac.cnt_eq]
      simp only
      rw [hpc x]
      have a1 := hcc x
      have a3 := Mac.cnt_eq (m.put (gi o 2) (gi o 3) []) x
      rw [p5] at a3
      simp at a1
      unfold Mac.mine
      omega
    exact ⟨hcl.wd, hcl.rk, hcl.fr, hcl.bk, hcl.cr, hcl.lp, hcl.cs, hcl.inf, hcl.sf, hcl.sb, putAll_pair h.dr, fun x hx => by
      have := cnt_mem.1 hx
      rw [hcn] at this
      have := h.rng x (cnt_mem.2 this)
      simp only [p4]
      exact this, nodup_cnt.2 fun x => by
      have := h.cnt_le x
      show Mac.cnt _ x ≤ 1
      rw [hcn]; exact this⟩
  · rw [if_neg (by omega), if_neg (by omega), if_neg (by omega), if_neg (by omega), if_neg (by omega), if_neg (by omega), if_pos hk]
    exact ⟨h.wd, ⟨r1, r2⟩, h.fr, h.bk, h.cr, h.lp, h.cs, h.inf, h.sf, h.sb, h.dr, h.rng, h.nd⟩
  · rw [if_neg (by omega), if_neg (by omega), if_neg (by omega), if_neg (by omega), if_neg (by omega), if_neg (by omega), if_neg (by omega), if_pos hk]
    refine h.setC ?_
    have := h.wd
    simp only [crOk, Bool.true_or, Bool.and_true, inR_iff]
    split <;> omega
  · rw [if_neg (by omega), if_neg (by omega), if_neg (by omega), if_neg (by omega), if_neg (by omega), if_neg (by omega), if_neg (by omega), if_neg (by omega)]
    refine h.setC ?_
    have := h.wd
    simp [crOk, inR_iff]
    omega
end Go.Proofs.YtgmppfhokfifgaaGreatDoor
/-
  Plain laws: the program's opCode (opC), and what execute leaves (exeM), against codeM and stepM. No program in sight.
-/
namespace Go.Proofs.YtgmppfhokfifgaaGreatDoor
set_option maxRecDepth 10000

/-! ### The program's opCode and execute -/
def cfB (m : Mac) (o : List Int) : Bool :=
  if gi o 0 = 4 ∨ gi o 0 = 6 ∨ gi o 0 = 7 then true
  else if gi o 0 = 8 then !(m.car o).1
  else if gi o 0 = 9 then (m.car o).1
  else (m.car o).1 && ((decide (gi o 1 = 1) && decide ((m.car o).2 ≤ plc (gi o 2) (gi o 3) m.rk)) || (decide (gi o 1 = -1) && decide (plc (gi o 2) (gi o 3) m.rk + 1 ≤ (m.car o).2)))
def mkB (k : Int) : Bool := decide (k = 1) || decide (k = 2) || decide (k = 5)
def faceM (m : Mac) (o : List Int) : Int := if gi o 2 = 2 then gi o 3 + m.rk else gi o 3 - m.rk
def mvC (m : Mac) (o : List Int) : Int :=
  if ¬ (0 ≤ faceM m o ∧ faceM m o ≤ m.wd - 1 ∧ 3 - gi o 2 = gi o 4 ∧ faceM m o = gi o 5) then 8 else if (m.mine o).length = 0 then 7 else if 4 < (m.mine o).length + (m.other o).length then 5 else 0
def opC (m : Mac) (o : List Int) : Int :=
  if m.wd ≤ gi o 3 ∨ m.wd ≤ gi o 5 then 1
  else if cfB m o = false then 9
  else if mkB (gi o 0) = true ∧ m.lp.length = 300 then 5
  else if gi o 0 = 2 ∧ (m.mine o).length = 4 then 5
  else if gi o 0 = 6 ∧ (m.mine o).length = 0 then 7
  else if gi o 0 ≠ 4 ∧ gi o 0 ≠ 5 then 0
  else mvC m o
theorem opC_no {m : Mac} {o : List Int} (h : ¬ (gi o 3 < m.wd ∧ gi o 5 < m.wd)) : opC m o = 1 := by unfold opC; rw [if_pos (by omega)]
theorem cf_carry {m : Mac} {o : List Int} (hk : gi o 0 = 1 ∨ gi o 0 = 2 ∨ gi o 0 = 3 ∨ gi o 0 = 5) (hd : pur (gi o 1)) : cfB m o = carryB m o := by
  unfold cfB carryB
  rw [if_neg (by omega), if_neg (by omega), if_neg (by omega), Bool.and_assoc]
  congr 1
  rcases hd with h | h <;> simp [h]
  · by_cases q : (m.car o).2 ≤ plc (gi o 2) (gi o 3) m.rk
    · simp [q]
    · simp [q]; omega
  · by_cases q : plc (gi o 2) (gi o 3) m.rk + 1 ≤ (m.car o).2
    · simp [q]
    · simp [q]; omega
theorem mv_move {m : Mac} {o : List Int} (hb : gi o 2 = 1 ∨ gi o 2 = 2) (hb2 : gi o 4 = 1 ∨ gi o 4 = 2) (hne : gi o 2 ≠ gi o 4) (ha : 0 ≤ gi o 5) (f2 : gi o 5 < m.wd) : mvC m o = moveC m o := by
  unfold mvC moveC faceM plc
  have e : (¬ (0 ≤ (if gi o 2 = 2 then gi o 3 + m.rk else gi o 3 - m.rk) ∧ (if gi o 2 = 2 then gi o 3 + m.rk else gi o 3 - m.rk) ≤ m.wd - 1 ∧ 3 - gi o 2 = gi o 4 ∧ (if gi o 2 = 2 then gi o 3 + m.rk else gi o 3 - m.rk) = gi o 5)) ↔
      (if gi o 2 = 2 then gi o 3 + m.rk else gi o 3) ≠ (if gi o 4 = 2 then gi o 5 + m.rk else gi o 5) := by
    rcases hb with h | h <;> rcases hb2 with h2 | h2 <;> simp [h, h2] <;> omega
  simp only [e]
theorem opC_code {m : Mac} {o : List Int} (h : OkM m) (ho : OpOk m o) : opC m o = codeM m o := by
  have hf := op_form ho.op
  have f1 := ho.f1
  have f2 := ho.f2
  have hlp := h.lp
  unfold opC codeM
  rw [if_neg (by omega)]
  rcases hf with ⟨hk, hd, hb, ha, c1, c2⟩ | ⟨hk, hb, ha, hb2, ha2, hne⟩ | ⟨hk, hb, ha, hb2, ha2, hne, hd, c1, c2⟩ | ⟨hk, hb, ha⟩ | ⟨hk, r1, r2⟩ | ⟨hk, hd, c1, c2⟩ | ⟨hk, c1, c2⟩
  · rw [cf_carry (by omega) hd]
    have hl4 := on_len h (b := gi o 2) (a := gi o 3) ⟨hb, ha, f1⟩
    have hl4' : (m.mine o).length ≤ 4 := hl4
    rcases hk with hk | hk | hk
    · cases carryB m o <;> simp [hk, mkB]
      by_cases q : m.lp.length = 300
      · simp [q]
      · rw [if_neg q, if_neg (show ¬ 300 ≤ m.lp.length by omega)]
    · cases carryB m o <;> simp [hk, mkB]
      by_cases q : m.lp.length = 300
      · simp [q]
      · rw [if_neg q, if_neg (show ¬ 300 ≤ m.lp.length by omega)]
        by_cases q2 : (m.mine o).length = 4
        · rw [if_pos q2, if_pos (show 4 ≤ (m.mine o).length by omega)]
        · rw [if_neg q2, if_neg (show ¬ 4 ≤ (m.mine o).length by omega)]
    · cases carryB m o <;> simp [hk, mkB]
  · have e : cfB m o = true := by unfold cfB; rw [if_pos (by omega)]
    rw [e, mv_move hb hb2 hne ha2 f2]
    simp [hk, mkB]
  · rw [cf_carry (by omega) hd, mv_move hb hb2 hne ha2 f2]
    cases carryB m o <;> simp [hk, mkB]
    by_cases q : m.lp.length = 300
    · simp [q]
    · rw [if_neg q, if_neg (show ¬ 300 ≤ m.lp.length by omega)]
  · have e : cfB m o = true := by unfold cfB; rw [if_pos (by omega)]
    rw [e]
    simp [hk, mkB]
  · have e : cfB m o = true := by unfold cfB; rw [if_pos (by omega)]
    rw [e]
    simp [hk, mkB]
  · have e : cfB m o = !(m.car o).1 := by unfold cfB; rw [if_neg (by omega), if_pos (by omega)]
    rw [e]
    cases (m.car o).1 <;> simp [hk, mkB]
  · have e : cfB m o = (m.car o).1 := by unfold cfB; rw [if_neg (by omega), if_neg (by omega), if_pos (by omega)]
    rw [e]
    cases (m.car o).1 <;> simp [hk, mkB]
/-! ### What execute leaves -/
def Mac.looped (m : Mac) (o ps : List Int) : Mac := (m.put (gi o 2) (gi o 3) (m.mine o ++ [m.n])).made o ps
def Mac.setAt (m : Mac) (o : List Int) : Mac := m.setC o ((m.car o).1, plc (gi o 2) (gi o 3) m.rk + (gi o 1 + 1) / 2)
def Mac.dropped (m : Mac) (o : List Int) (xs : List Int) : Mac := ({ m with dr := xs } : Mac).put (gi o 2) (gi o 3) []
def exeM (m : Mac) (o : List Int) : Mac :=
  if gi o 0 = 1 then ((m.put (gi o 2) (gi o 3) []).looped o (m.mine o)).setAt o
  else if gi o 0 = 2 then (m.looped o []).setAt o
  else if gi o 0 = 3 then m.setAt o
  else if gi o 0 = 5 then ((m.moved o).looped o (m.mine o)).setAt o
  else if gi o 0 = 4 then m.moved o
  else if gi o 0 = 6 then m.dropped o (putAll m.dr (m.mine o))
  else if gi o 0 = 7 then { m with rk := gi o 7 }
  else if gi o 0 = 8 then m.setC o (true, if gi o 1 = -1 then m.wd + 3 else -3)
  else m.setC o (false, 0)
theorem put_put (m : Mac) (b a : Int) (xs ys : List Int) : (m.put b a xs).put b a ys = m.put b a ys := by
  unfold Mac.put; split <;> simp_all
theorem carryAt_eq {m : Mac} {o : List Int} (h : pur (gi o 1)) : plc (gi o 2) (gi o 3) m.rk + (gi o 1 + 1) / 2 = carryAt m o := by
  unfold carryAt
  rcases h with h | h <;> simp [h]
theorem setAt_put (m : Mac) (o : List Int) (b a : Int) (xs : List Int) : (m.put b a xs).setAt o = (m.setAt o).put b a xs := by
  unfold Mac.put; split <;> rfl
theorem made_put (m : Mac) (o ps : List Int) (b a : Int) (xs : List Int) : (m.put b a xs).made o ps = (m.made o ps).put b a xs := by
  unfold Mac.put; split <;> rfl
theorem setAt_made (m : Mac) (o ps : List Int) : (m.made o ps).setAt o = (m.setAt o).made o ps := rfl
theorem setAt_eq {m : Mac} {o : List Int} (h : pur (gi o 1)) : m.setAt o = m.carried o := by
  unfold Mac.setAt Mac.carried; rw [carryAt_eq h]
theorem put_n (m : Mac) (b a : Int) (xs : List Int) : (m.put b a xs).n = m.n := by unfold Mac.put; split <;> rfl
theorem carried_moved {m : Mac} {o : List Int} : (m.carried o).moved o = (m.moved o).setC o ((m.car o).1, carryAt m o) := by
  unfold Mac.moved
  have e : (m.carried o).joined o = m.joined o := rfl
  rw [e]
  generalize m.joined o = js
  unfold Mac.carried Mac.put
  split <;> split <;> rfl
theorem moved_parts (m : Mac) (o : List Int) : (m.moved o).cr = m.cr ∧ (m.moved o).rk = m.rk ∧ (m.moved o).wd = m.wd ∧ (m.moved o).lp = m.lp ∧ (m.moved o).dr = m.dr := by
  unfold Mac.moved
  obtain ⟨a1, a2, a3, a4, a5, -, -⟩ := put_parts (m.put (gi o 4) (gi o 5) (m.joined o)) (gi o 2) (gi o 3) []
  obtain ⟨b1, b2, b3, b4, b5, -, -⟩ := put_parts m (gi o 4) (gi o 5) (m.joined o)
  exact ⟨a3.trans b3, a2.trans b2, a1.trans b1, a4.trans b4, a5.trans b5⟩
theorem exeM_step {m : Mac} {o : List Int} (h : OkM m) (ho : OpOk m o) : exeM m o = stepM m o := by
  have hf := op_form ho.op
  have f1 := ho.f1
  have f2 := ho.f2
  unfold exeM stepM
  rcases hf with ⟨hk, hd, hb, ha, c1, c2⟩ | ⟨hk, hb, ha, hb2, ha2, hne⟩ | ⟨hk, hb, ha, hb2, ha2, hne, hd, c1, c2⟩ | ⟨hk, hb, ha⟩ | ⟨hk, r1, r2⟩ | ⟨hk, hd, c1, c2⟩ | ⟨hk, c1, c2⟩
  · have hn : m.ndl (gi o 2) (gi o 3) := ⟨hb, ha, f1⟩
    rcases hk with hk | hk | hk
    · rw [if_pos hk, if_pos hk]
      have e1 : (m.put (gi o 2) (gi o 3) []).mine o = [] := on_put_self m h hn []
      unfold Mac.looped
      rw [e1, put_put, List.nil_append, put_n, made_put, setAt_put, setAt_made, setAt_eq hd]
    · rw [if_neg (by omega), if_pos hk, if_neg (by omega), if_pos hk]
      unfold Mac.looped
      rw [made_put, setAt_put, setAt_made, setAt_eq hd]
    · rw [if_neg (by omega), if_neg (by omega), if_pos hk, if_neg (by omega), if_neg (by omega), if_neg (by omega), if_pos hk, setAt_eq hd]
  · simp [hk]
  · rw [if_neg (by omega), if_neg (by omega), if_neg (by omega), if_pos hk, if_neg (by omega), if_neg (by omega), if_pos hk]
    have e1 : (m.moved o).mine o = [] := by
      unfold Mac.moved Mac.mine
      rw [put_comm m (Ne.symm hne) hb2 hb, on_put_other _ (Ne.symm hne) hb2 hb]
      exact on_put_self m h ⟨hb, ha, f1⟩ []
    obtain ⟨p1, p2, p3, p4, p5⟩ := moved_parts m o
    unfold Mac.looped
    rw [e1, List.nil_append, made_put, setAt_put, setAt_made, setAt_eq hd, carried_moved]
    have e2 : (m.moved o).n = m.n := by unfold Mac.n; rw [p4]
    have e3 : (m.moved o).carried o = (m.moved o).setC o ((m.car o).1, carryAt m o) := by
      unfold Mac.carried Mac.car carryAt
      rw [p1, p2]
    rw [e2, e3]
  · simp [hk, Mac.dropped]
  · simp [hk]
  · simp [hk]
  · simp [hk]
/-- Sorted dropped loops. -/
theorem pair_lt_ext : ∀ (xs ys : List Int), xs.Pairwise (· < ·) → ys.Pairwise (· < ·) → (∀ x, x ∈ xs ↔ x ∈ ys) → xs = ys
  | [], [], _, _, _ => rfl
  | [], y :: ys, _, _, h => by have := (h y).2 (by simp); cases this
  | x :: xs, [], _, _, h => by have := (h x).1 (by simp); cases this
  | x :: xs, y :: ys, h1, h2, h => by
    rw [List.pairwise_cons] at h1 h2
    have e : x = y := by
      have a := (h x).1 (by simp)
      have b := (h y).2 (by simp)
      rw [List.mem_cons] at a b
      rcases a with a | a
      · exact a
      · rcases b with b | b
        · exact b.symm
        · have := h1.1 y b; have := h2.1 x a; omega
    subst e
    congr 1
    refine pair_lt_ext xs ys h1.2 h2.2 fun z => ?_
    have := h z
    rw [List.mem_cons, List.mem_cons] at this
    constructor
    · intro q
      rcases this.1 (.inr q) with e | e
      · subst e; have := h1.1 z q; omega
      · exact e
    · intro q
      rcases this.2 (.inr q) with e | e
      · subst e; have := h2.1 z q; omega
      · exact e
theorem putAll_of_perm {dr xs ys : List Int} (h1 : dr.Pairwise (· < ·)) (hc : ∀ x, dr.count x + xs.count x ≤ 1) (hp : ys.Perm (dr ++ xs)) (hs : ys.Pairwise (· ≤ ·)) : ys = putAll dr xs := by
  refine pair_lt_ext _ _ ?_ (putAll_pair h1) fun x => ?_
  · have hn : ys.Nodup := nodup_cnt.2 fun x => by rw [hp.count_eq, List.count_append]; exact hc x
    exact (hs.and hn).imp fun {a b} q => by have := q.1; have := q.2; omega
  · rw [hp.mem_iff, putAll_mem, List.mem_append]
theorem OkM.drop_cnt {m : Mac} (h : OkM m) {b a : Int} (hn : m.ndl b a) (x : Int) : m.dr.count x + (m.on b a).count x ≤ 1 := by
  have a1 := h.put_cnt hn [] x
  have a2 := h.cnt_le x
  have a3 := Mac.cnt_eq (m.put b a []) x
  rw [(put_parts m b a []).2.2.2.2.1] at a3
  simp at a1
  omega
end Go.Proofs.YtgmppfhokfifgaaGreatDoor
