/-
  Plain law: the mirror image of an operation is executed by the mirror image of the machine (mir_step, mir_runL). No program in sight.
-/
import Derived.Test.YtgmppfhokfifgaaRnp
import Derived.Test.YtgmppfhokfifgaaPo5
namespace Go.Proofs.Ytgmppfhokfifgaa
set_option maxRecDepth 10000

/-! ### The mirror image of a machine -/
def mirC (n : Int) (c : Bool × Int) : Bool × Int := if c.1 then (true, n - c.2) else c
def mirI (n : Int) (l : List Int) : List Int := gi l 0 :: gi l 1 :: gi l 2 :: (n - 1 - gi l 3) :: (-gi l 4) :: l.drop 5
def mirM (m : Mac) : Mac := ⟨m.wd, -m.rk, m.fr.reverse, m.bk.reverse, m.cr.map (mirC m.wd), m.lp.map (mirI m.wd), m.dr⟩
theorem mirO_gi (n : Int) (o : List Int) : gi (mirO n o) 0 = gi o 0 ∧ gi (mirO n o) 1 = -gi o 1 ∧ gi (mirO n o) 2 = gi o 2 ∧ gi (mirO n o) 3 = mirN n (gi o 2) (gi o 3) ∧ gi (mirO n o) 4 = gi o 4 ∧ gi (mirO n o) 5 = mirN n (gi o 4) (gi o 5) ∧ gi (mirO n o) 6 = gi o 6 ∧ gi (mirO n o) 7 = -gi o 7 := ⟨rfl, rfl, rfl, rfl, rfl, rfl, rfl, rfl⟩
theorem mirN_on {n b a : Int} (h : b ≠ 0) : mirN n b a = n - 1 - a := if_neg h
theorem gl_rev {L : List (List Int)} {k : Nat} (hk : k < L.length) : gl L.reverse (L.length - 1 - k) = gl L k := by
  rw [gl_eq (by simp; omega), gl_eq hk, List.getElem_reverse]
  congr 1
  omega
theorem set_rev {L : List (List Int)} {k : Nat} (hk : k < L.length) (xs : List Int) : (L.set k xs).reverse = L.reverse.set (L.length - 1 - k) xs := by
  apply List.ext_getElem (by simp)
  intro i h1 h2
  simp only [List.length_reverse, List.length_set] at h1
  rw [List.getElem_reverse, List.getElem_set, List.getElem_set, List.getElem_reverse]
  simp only [List.length_set]
  by_cases e : k = L.length - 1 - i
  · rw [if_pos e, if_pos (by omega)]
  · rw [if_neg e, if_neg (by omega)]
theorem mirM_sd (m : Mac) (b : Int) : (mirM m).sd b = (m.sd b).reverse := by
  unfold Mac.sd
  split <;> rfl
theorem mir_nat {n a : Int} {L : Nat} (hl : (L : Int) = n) (h0 : 0 ≤ a) (h1 : a < n) : (n - 1 - a).toNat = L - 1 - a.toNat := by omega
theorem mirM_on {m : Mac} (h : OkM m) {b a : Int} (hn : m.ndl b a) : (mirM m).on b (m.wd - 1 - a) = m.on b a := by
  have hk := h.sdlt hn
  obtain ⟨hb, h0, h1⟩ := hn
  have hl : ((m.sd b).length : Int) = m.wd := by
    unfold Mac.sd
    split
    · exact h.bk
    · exact h.fr
  unfold Mac.on
  rw [mirM_sd, mir_nat hl h0 h1]
  exact gl_rev hk
theorem mirM_put {m : Mac} (hf : (m.fr.length : Int) = m.wd) (hbk : (m.bk.length : Int) = m.wd) {b a : Int} (h0 : 0 ≤ a) (h1 : a < m.wd) (xs : List Int) : mirM (m.put b a xs) = (mirM m).put b (m.wd - 1 - a) xs := by
  unfold Mac.put
  split
  · simp only [mirM, Mac.mk.injEq, true_and, and_true]
    rw [mir_nat hbk h0 h1]
    exact set_rev (by omega) xs
  · simp only [mirM, Mac.mk.injEq, true_and, and_true]
    rw [mir_nat hf h0 h1]
    exact set_rev (by omega) xs
theorem mir_plc (n b a rk : Int) : plc b (n - 1 - a) (-rk) = n - 1 - plc b a rk := by
  unfold plc
  split <;> omega
theorem mirM_car {m : Mac} (h : OkM m) {o o' : List Int} (he : gi o' 6 = gi o 6) (h1 : 1 ≤ gi o 6) (h2 : gi o 6 ≤ 4) : (mirM m).car o' = mirC m.wd (m.car o) := by
  have hl := h.cr
  unfold Mac.car
  rw [he]
  show gc (m.cr.map (mirC m.wd)) _ = _
  rw [gc_eq (by simp; omega), gc_eq (by omega), List.getElem_map]
theorem mirM_setC (m : Mac) {o o' : List Int} (he : gi o' 6 = gi o 6) (c : Bool × Int) : mirM (m.setC o c) = (mirM m).setC o' (mirC m.wd c) := by
  unfold Mac.setC
  rw [he]
  simp only [mirM, Mac.mk.injEq, true_and, and_true]
  exact List.map_set
theorem mirC_fst (n : Int) (c : Bool × Int) : (mirC n c).1 = c.1 := by
  unfold mirC
  cases h : c.1
  · rw [if_neg (by simp)]; exact h
  · rw [if_pos rfl]
theorem mirC_snd {n : Int} {c : Bool × Int} (h : c.1 = true) : (mirC n c).2 = n - c.2 := by
  unfold mirC
  rw [if_pos h]
theorem mir_carryB {m : Mac} (h : OkM m) {o : List Int} (hd : pur (gi o 1)) (hb : gi o 2 ≠ 0) (h1 : 1 ≤ gi o 6) (h2 : gi o 6 ≤ 4) : carryB (mirM m) (mirO m.wd o) = carryB m o := by
  obtain ⟨e0, e1, e2, e3, e4, e5, e6, e7⟩ := mirO_gi m.wd o
  unfold carryB
  rw [mirM_car h e6 h1 h2, mirC_fst, e1, e2, e3, mirN_on hb]
  show (_ && !(_ && decide (plc (gi o 2) (m.wd - 1 - gi o 3) (-m.rk) < _)) && !(_ && decide (_ < plc (gi o 2) (m.wd - 1 - gi o 3) (-m.rk) + 1))) = _
  rw [mir_plc]
  cases hc : (m.car o).1
  · rfl
  · rw [mirC_snd hc]
    generalize plc (gi o 2) (gi o 3) m.rk = p
    generalize (m.car o).2 = q
    rcases hd with e | e
    all_goals
      rw [e]
      simp only [Bool.true_and]
      have a1 : decide (m.wd - 1 - p < m.wd - q) = decide (q < p + 1) := by congr 1; apply propext; omega
      have a2 : decide (m.wd - q < m.wd - 1 - p + 1) = decide (p < q) := by congr 1; apply propext; omega
      rw [a1, a2]
      simp
theorem mir_carryAt {m : Mac} {o : List Int} (hd : pur (gi o 1)) (hb : gi o 2 ≠ 0) : carryAt (mirM m) (mirO m.wd o) = m.wd - carryAt m o := by
  obtain ⟨e0, e1, e2, e3, e4, e5, e6, e7⟩ := mirO_gi m.wd o
  unfold carryAt
  rw [e1, e2, e3, mirN_on hb]
  show (if -gi o 1 = 1 then plc (gi o 2) (m.wd - 1 - gi o 3) (-m.rk) + 1 else plc (gi o 2) (m.wd - 1 - gi o 3) (-m.rk)) = _
  rw [mir_plc]
  rcases hd with e | e
  · rw [if_neg (by omega), if_pos e]; omega
  · rw [if_pos (by omega), if_neg (by omega)]; omega
theorem mirM_carried {m : Mac} (h : OkM m) {o : List Int} (hc : (m.car o).1 = true) (hd : pur (gi o 1)) (hb : gi o 2 ≠ 0) (h1 : 1 ≤ gi o 6) (h2 : gi o 6 ≤ 4) : mirM (m.carried o) = (mirM m).carried (mirO m.wd o) := by
  unfold Mac.carried
  rw [mirM_setC m (o := o) (o' := mirO m.wd o) rfl, mir_carryAt hd hb, mirM_car h (o' := mirO m.wd o) (o := o) rfl h1 h2, mirC_fst]
  unfold mirC
  rw [hc, if_pos rfl]
theorem mirM_made {m : Mac} {o : List Int} (hb : gi o 2 ≠ 0) (ps : List Int) : mirM (m.made o ps) = (mirM m).made (mirO m.wd o) ps := by
  simp only [mirM, Mac.made, List.map_append, Mac.mk.injEq, true_and, and_true, List.append_cancel_left_eq, List.map_cons, List.map_nil, List.cons.injEq]
  show mirI m.wd (infoO o ps) = infoO (mirO m.wd o) ps
  simp only [mirI, infoO, List.cons.injEq]
  exact ⟨rfl, rfl, rfl, (mirN_on hb).symm, rfl, rfl⟩
theorem mirM_n (m : Mac) : (mirM m).n = m.n := by simp [Mac.n, mirM]
theorem mirO_opB {n : Int} {o : List Int} (h : opB o = true) (f1 : gi o 3 < n) (f2 : gi o 5 < n) (hn : n ≤ 24) : opB (mirO n o) = true ∧ gi (mirO n o) 3 < n ∧ gi (mirO n o) 5 < n := by
  obtain ⟨e0, e1, e2, e3, e4, e5, e6, e7⟩ := mirO_gi n o
  have hm : ∀ b a : Int, a < n → ndlB b a = true → ndlB b (mirN n b a) = true ∧ mirN n b a < n := by
    intro b a ha hb
    simp only [ndlB, bedB, Bool.and_eq_true, Bool.or_eq_true, beq_iff_eq, inR_iff] at hb ⊢
    rw [mirN_on (by omega)]
    omega
  have hz : ∀ a : Int, mirN n 0 a = a := fun a => if_pos rfl
  have hdd : ∀ d : Int, dirB (-d) = dirB d := by
    intro d
    rw [Bool.eq_iff_iff]
    simp only [dirB, Bool.or_eq_true, beq_iff_eq]
    omega
  have hrr : ∀ r : Int, inR (-r) (-3) 3 = inR r (-3) 3 := by
    intro r
    rw [Bool.eq_iff_iff]
    simp only [inR_iff]
    omega
  have h00 : ∀ r : Int, (-r == 0) = (r == 0) := by
    intro r
    rw [Bool.eq_iff_iff]
    simp only [beq_iff_eq]
    omega
  unfold opB at h ⊢
  rw [e0, e1, e2, e3, e4, e5, e6, e7]
  generalize gi o 0 = k at *
  generalize gi o 1 = d at *
  generalize gi o 2 = fb at *
  generalize gi o 3 = fa at *
  generalize gi o 4 = tb at *
  generalize gi o 5 = ta at *
  generalize gi o 6 = c at *
  generalize gi o 7 = r at *
  have z : ∀ b a : Int, (b == 0 && a == 0) = true → b = 0 ∧ a = 0 := by intro b a q; simpa using q
  unfold vOp at h ⊢
  rw [hdd, hrr, h00, h00]
  split at h
  · simp only [Bool.and_eq_true] at h
    obtain ⟨⟨⟨⟨h1, h2⟩, h3⟩, h4⟩, h5⟩ := h
    obtain ⟨rfl, rfl⟩ : tb = 0 ∧ ta = 0 := by simpa using h4
    obtain ⟨q1, q2⟩ := hm _ _ f1 h2
    rw [if_pos (by assumption), h1, q1, h3, h5, hz]
    exact ⟨by simp, q2, f2⟩
  · split at h
    · simp only [Bool.and_eq_true, pairB, bne_iff_ne, ne_eq] at h
      obtain ⟨⟨⟨⟨⟨h1, h2⟩, h3⟩, h4⟩, h5⟩, h6⟩ := h
      obtain ⟨q1, q2⟩ := hm _ _ f1 h1
      obtain ⟨q3, q4⟩ := hm _ _ f2 h2
      rw [if_neg (by assumption), if_pos (by assumption)]
      exact ⟨by simp only [pairB, q1, q3, h4, h5, h6, Bool.and_eq_true, bne_iff_ne, ne_eq]; exact ⟨⟨⟨⟨⟨trivial, trivial⟩, h3⟩, trivial⟩, trivial⟩, trivial⟩, q2, q4⟩
    · split at h
      · simp only [Bool.and_eq_true, pairB, bne_iff_ne, ne_eq] at h
        obtain ⟨⟨⟨⟨⟨h1, h2⟩, h3⟩, h4⟩, h5⟩, h6⟩ := h
        obtain ⟨q1, q2⟩ := hm _ _ f1 h1
        obtain ⟨q3, q4⟩ := hm _ _ f2 h2
        rw [if_neg (by assumption), if_neg (by assumption), if_pos (by assumption)]
        exact ⟨by simp only [pairB, q1, q3, h4, h5, h6, Bool.and_eq_true, bne_iff_ne, ne_eq]; exact ⟨⟨⟨⟨⟨trivial, trivial⟩, h3⟩, trivial⟩, trivial⟩, trivial⟩, q2, q4⟩
      · split at h
        · simp only [Bool.and_eq_true] at h
          obtain ⟨⟨⟨⟨h1, h2⟩, h4⟩, h5⟩, h6⟩ := h
          obtain ⟨rfl, rfl⟩ : tb = 0 ∧ ta = 0 := by simpa using h4
          obtain ⟨q1, q2⟩ := hm _ _ f1 h1
          rw [if_neg (by assumption), if_neg (by assumption), if_neg (by assumption), if_pos (by assumption), h2, q1, h5, h6, hz]
          exact ⟨by simp, q2, f2⟩
        · split at h
          · simp only [Bool.and_eq_true] at h
            obtain ⟨⟨⟨⟨h1, h2⟩, h3⟩, h4⟩, h5⟩ := h
            obtain ⟨rfl, rfl⟩ : fb = 0 ∧ fa = 0 := by simpa using h3
            obtain ⟨rfl, rfl⟩ : tb = 0 ∧ ta = 0 := by simpa using h4
            rw [if_neg (by assumption), if_neg (by assumption), if_neg (by assumption), if_neg (by assumption), if_pos (by assumption), h1, h2, h5, hz]
            exact ⟨by simp, f1, f2⟩
          · split at h
            · simp only [Bool.and_eq_true] at h
              obtain ⟨⟨⟨⟨h1, h2⟩, h3⟩, h4⟩, h5⟩ := h
              obtain ⟨rfl, rfl⟩ : fb = 0 ∧ fa = 0 := by simpa using h3
              obtain ⟨rfl, rfl⟩ : tb = 0 ∧ ta = 0 := by simpa using h4
              rw [if_neg (by assumption), if_neg (by assumption), if_neg (by assumption), if_neg (by assumption), if_neg (by assumption), if_pos (by assumption), h1, h2, h5, hz]
              exact ⟨by simp, f1, f2⟩
            · split at h
              · simp only [Bool.and_eq_true] at h
                obtain ⟨⟨⟨⟨h1, h2⟩, h3⟩, h4⟩, h5⟩ := h
                obtain ⟨rfl, rfl⟩ : fb = 0 ∧ fa = 0 := by simpa using h3
                obtain ⟨rfl, rfl⟩ : tb = 0 ∧ ta = 0 := by simpa using h4
                rw [if_neg (by assumption), if_neg (by assumption), if_neg (by assumption), if_neg (by assumption), if_neg (by assumption), if_neg (by assumption), if_pos (by assumption), h1, h2, h5, hz]
                exact ⟨by simp, f1, f2⟩
              · exact absurd h (by simp)
theorem ndl_ne {m : Mac} {b a : Int} (h : m.ndl b a) : b ≠ 0 := by rcases h.1 with e | e <;> omega
theorem mirM_joined {m : Mac} (h : OkM m) {o : List Int} (n1 : m.ndl (gi o 2) (gi o 3)) (n2 : m.ndl (gi o 4) (gi o 5)) : (mirM m).mine (mirO m.wd o) = m.mine o ∧ (mirM m).other (mirO m.wd o) = m.other o := by
  obtain ⟨e0, e1, e2, e3, e4, e5, e6, e7⟩ := mirO_gi m.wd o
  unfold Mac.mine Mac.other
  rw [e2, e3, e4, e5, mirN_on (ndl_ne n1), mirN_on (ndl_ne n2)]
  exact ⟨mirM_on h n1, mirM_on h n2⟩
theorem mirM_mine {m : Mac} (h : OkM m) {o : List Int} (n1 : m.ndl (gi o 2) (gi o 3)) : (mirM m).mine (mirO m.wd o) = m.mine o := by
  obtain ⟨e0, e1, e2, e3, e4, e5, e6, e7⟩ := mirO_gi m.wd o
  unfold Mac.mine
  rw [e2, e3, mirN_on (ndl_ne n1)]
  exact mirM_on h n1
theorem mir_moveC {m : Mac} (h : OkM m) {o : List Int} (n1 : m.ndl (gi o 2) (gi o 3)) (n2 : m.ndl (gi o 4) (gi o 5)) : moveC (mirM m) (mirO m.wd o) = moveC m o := by
  obtain ⟨e0, e1, e2, e3, e4, e5, e6, e7⟩ := mirO_gi m.wd o
  obtain ⟨q1, q2⟩ := mirM_joined h n1 n2
  unfold moveC
  rw [q1, q2, e2, e3, e4, e5, mirN_on (ndl_ne n1), mirN_on (ndl_ne n2)]
  show (if plc (gi o 2) (m.wd - 1 - gi o 3) (-m.rk) ≠ plc (gi o 4) (m.wd - 1 - gi o 5) (-m.rk) then (8 : Int) else _) = _
  rw [mir_plc, mir_plc]
  generalize plc (gi o 2) (gi o 3) m.rk = p
  generalize plc (gi o 4) (gi o 5) m.rk = q
  by_cases e : p = q
  · rw [if_neg (fun h : m.wd - 1 - p ≠ m.wd - 1 - q => h (by rw [e])), if_neg (fun h : p ≠ q => h e)]
  · rw [if_pos (show m.wd - 1 - p ≠ m.wd - 1 - q by omega), if_pos (show p ≠ q from e)]
theorem put_sizes (m : Mac) (b a : Int) (ys : List Int) (h1 : (m.fr.length : Int) = m.wd) (h2 : (m.bk.length : Int) = m.wd) : ((m.put b a ys).fr.length : Int) = (m.put b a ys).wd ∧ ((m.put b a ys).bk.length : Int) = (m.put b a ys).wd := by
  obtain ⟨e1, -, -, -, -, e6, e7⟩ := put_parts m b a ys
  rw [e1, e6, e7]
  exact ⟨h1, h2⟩
theorem mirM_moved {m : Mac} (h : OkM m) {o : List Int} (n1 : m.ndl (gi o 2) (gi o 3)) (n2 : m.ndl (gi o 4) (gi o 5)) : mirM (m.moved o) = (mirM m).moved (mirO m.wd o) := by
  obtain ⟨e0, e1, e2, e3, e4, e5, e6, e7⟩ := mirO_gi m.wd o
  obtain ⟨q1, q2⟩ := mirM_joined h n1 n2
  have hs := put_sizes m (gi o 4) (gi o 5) (m.joined o) h.fr h.bk
  have hw : (m.put (gi o 4) (gi o 5) (m.joined o)).wd = m.wd := (put_parts _ _ _ _).1
  unfold Mac.moved
  rw [mirM_put hs.1 hs.2 n1.2.1 (by rw [hw]; exact n1.2.2), mirM_put h.fr h.bk n2.2.1 n2.2.2, hw, e2, e3, e4, e5, mirN_on (ndl_ne n1), mirN_on (ndl_ne n2)]
  unfold Mac.joined
  rw [q1, q2, e4]
/-- The mirror image of an operation is executed by the mirror image of the machine. -/
theorem mir_step {m : Mac} (h : OkM m) {o : List Int} (ho : OpOk m o) : codeM (mirM m) (mirO m.wd o) = codeM m o ∧ (codeM m o = 0 → mirM (stepM m o) = stepM (mirM m) (mirO m.wd o)) := by
  obtain ⟨e0, e1, e2, e3, e4, e5, e6, e7⟩ := mirO_gi m.wd o
  have f1 := ho.f1
  have f2 := ho.f2
  have hl : (mirM m).lp.length = m.lp.length := by simp [mirM]
  unfold codeM stepM
  rw [e0, e1, e2, e3, e7, hl, mirM_n]
  rcases op_form ho.op with ⟨hk, hd, hb, ha, c1, c2⟩ | ⟨hk, hb, ha, hb2, ha2, hne⟩ | ⟨hk, hb, ha, hb2, ha2, hne, hd, c1, c2⟩ | ⟨hk, hb, ha⟩ | ⟨hk, r1, r2⟩ | ⟨hk, hd, c1, c2⟩ | ⟨hk, c1, c2⟩
  · have n1 : m.ndl (gi o 2) (gi o 3) := ⟨hb, ha, f1⟩
    have hb0 : gi o 2 ≠ 0 := by omega
    rw [mir_carryB h hd hb0 c1 c2, mirM_mine h n1, mirN_on hb0]
    have hcar := fun hc : carryB m o = true => mirM_carried h (carryB_in hc) hd hb0 c1 c2
    have hcm : ∀ ps, carryB m o = true → mirM ((m.carried o).made o ps) = ((mirM m).carried (mirO m.wd o)).made (mirO m.wd o) ps := fun ps hc => by
      rw [← hcar hc]
      exact mirM_made (m := m.carried o) hb0 ps
    rcases hk with hk | hk | hk
    · rw [hk]
      simp only [Int.reduceEq, true_or, if_true, if_false]
      refine ⟨trivial, fun hc => ?_⟩
      have hcy : carryB m o = true := by
        cases e : carryB m o
        · rw [e] at hc; simp at hc
        · rfl
      rw [← hcm _ hcy]
      exact mirM_put (m := (m.carried o).made o (m.mine o)) h.fr h.bk ha f1 _
    · rw [hk]
      simp only [Int.reduceEq, true_or, or_true, if_true, if_false]
      refine ⟨trivial, fun hc => ?_⟩
      have hcy : carryB m o = true := by
        cases e : carryB m o
        · rw [e] at hc; simp at hc
        · rfl
      rw [← hcm _ hcy]
      exact mirM_put (m := (m.carried o).made o []) h.fr h.bk ha f1 _
    · rw [hk]
      simp only [Int.reduceEq, or_false, if_false, if_true]
      refine ⟨trivial, fun hc => ?_⟩
      have hcy : carryB m o = true := by
        cases e : carryB m o
        · rw [e] at hc; simp at hc
        · rfl
      exact hcar hcy
  · have n1 : m.ndl (gi o 2) (gi o 3) := ⟨hb, ha, f1⟩
    have n2 : m.ndl (gi o 4) (gi o 5) := ⟨hb2, ha2, f2⟩
    rw [hk, mir_moveC h n1 n2]
    simp only [Int.reduceEq, or_false, if_false, if_true]
    exact ⟨trivial, fun _ => mirM_moved h n1 n2⟩
  · have n1 : m.ndl (gi o 2) (gi o 3) := ⟨hb, ha, f1⟩
    have n2 : m.ndl (gi o 4) (gi o 5) := ⟨hb2, ha2, f2⟩
    have hb0 : gi o 2 ≠ 0 := by omega
    rw [hk, mir_carryB h hd hb0 c1 c2, mirM_mine h n1, mirN_on hb0, mir_moveC h n1 n2]
    simp only [Int.reduceEq, or_true, if_true, if_false]
    refine ⟨trivial, fun hc => ?_⟩
    have hcy : carryB m o = true := by
      cases e : carryB m o
      · rw [e] at hc; simp at hc
      · rfl
    have hok := h.carried hcy n1
    have n1' : (m.carried o).ndl (gi o 2) (gi o 3) := n1
    have n2' : (m.carried o).ndl (gi o 4) (gi o 5) := n2
    have hmv := mirM_moved hok n1' n2'
    rw [mirM_carried h (carryB_in hcy) hd hb0 c1 c2] at hmv
    have hmp := moved_parts (m.carried o) o
    have hwd : ((m.carried o).moved o).wd = m.wd := hmp.2.2.1
    have s1 := put_sizes (m.carried o) (gi o 4) (gi o 5) ((m.carried o).joined o) h.fr h.bk
    have s2 := put_sizes _ (gi o 2) (gi o 3) [] s1.1 s1.2
    have hmm : mirM (((m.carried o).moved o).made o (m.mine o)) = (((mirM m).carried (mirO m.wd o)).moved (mirO m.wd o)).made (mirO m.wd o) (m.mine o) := by
      have q := mirM_made (m := (m.carried o).moved o) hb0 (m.mine o)
      rw [hwd] at q
      rw [q]
      congr 1
    rw [← hmm]
    have q := mirM_put (m := ((m.carried o).moved o).made o (m.mine o)) s2.1 s2.2 (b := gi o 2) (a := gi o 3) ha (by show gi o 3 < ((m.carried o).moved o).wd; rw [hwd]; exact f1) [m.n]
    rw [q]
    show _ = _
    have : (((m.carried o).moved o).made o (m.mine o)).wd = m.wd := hwd
    rw [this]
  · have n1 : m.ndl (gi o 2) (gi o 3) := ⟨hb, ha, f1⟩
    have hb0 : gi o 2 ≠ 0 := by omega
    rw [hk, mirM_mine h n1, mirN_on hb0]
    simp only [Int.reduceEq, or_false, if_false, if_true]
    exact ⟨trivial, fun _ => mirM_put (m := ({ m with dr := putAll m.dr (m.mine o) } : Mac)) h.fr h.bk ha f1 []⟩
  · rw [hk]
    simp only [Int.reduceEq, or_false, if_false, if_true]
    exact ⟨trivial, fun _ => rfl⟩
  · rw [hk, mirM_car h e6 c1 c2, mirC_fst]
    simp only [Int.reduceEq, or_false, if_false, if_true, decide_true]
    refine ⟨trivial, fun _ => ?_⟩
    rw [mirM_setC m (o := o) (o' := mirO m.wd o) rfl]
    congr 1
    show (if true = true then (true, m.wd - _) else _) = _
    rw [if_pos rfl]
    have hw : (mirM m).wd = m.wd := rfl
    rw [hw]
    rcases hd with e | e
    · rw [if_neg (by omega), if_pos (by omega)]; congr 1
    · rw [if_pos (by omega), if_neg (by omega)]; congr 1; omega
  · rw [hk, mirM_car h e6 c1 c2, mirC_fst]
    simp only [Int.reduceEq, or_false, if_false, decide_false]
    exact ⟨trivial, fun _ => mirM_setC m (o := o) (o' := mirO m.wd o) rfl _⟩
theorem mirM_new (n : Int) : mirM (newM n) = newM n := by
  simp only [mirM, newM, List.reverse_replicate, List.map_nil, Int.neg_zero, Mac.mk.injEq, true_and, and_true]
  rfl
theorem mir_runL {n : Int} (hn : n ≤ 24) : ∀ (os : List (List Int)) (m : Mac) (k : Nat), OkM m → m.wd = n → (∀ o ∈ os, opB o = true ∧ gi o 3 < n ∧ gi o 5 < n) → runL (mirM m) k (os.map (mirO n)) = (mirM (runL m k os).1, (runL m k os).2.1, (runL m k os).2.2)
  | [], m, k, _, _, _ => rfl
  | o :: os, m, k, h, hw, ha => by
    obtain ⟨h1, h2, h3⟩ := ha o (by simp)
    have ho : OpOk m o := ⟨h1, by rw [hw]; exact h2, by rw [hw]; exact h3⟩
    obtain ⟨q1, q2⟩ := mir_step h ho
    rw [hw] at q1 q2
    rw [List.map_cons]
    unfold runL
    rw [q1]
    by_cases hc : codeM m o = 0
    · rw [if_pos hc, if_pos hc, ← q2 hc]
      exact mir_runL hn os (stepM m o) (k + 1) (stepM_ok h ho hc) (by rw [stepM_wd]; exact hw) (fun o' ho' => ha o' (by simp [ho']))
    · rw [if_neg hc, if_neg hc]
theorem mirO_mirO {n : Int} {o : List Int} (h : o.length = 8) : mirO n (mirO n o) = o := by
  match o, h with
  | [a0, a1, a2, a3, a4, a5, a6, a7], _ =>
    simp only [mirO, mirN, gi, List.getD_cons_zero, List.getD_cons_succ, Int.neg_neg, List.cons.injEq, true_and, and_true]
    constructor
    · split <;> omega
    · split <;> omega
end Go.Proofs.Ytgmppfhokfifgaa
