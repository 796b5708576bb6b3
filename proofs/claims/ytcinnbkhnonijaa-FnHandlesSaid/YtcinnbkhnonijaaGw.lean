/-
  Contracts: the reference's functions on permutations (l04Start, l04Inverse, l04Finish, l04Identity, l04Half, l04Behind, l04Before, l04Flip, l04Is, l04Extra).
-/
import Derived.Test.YtcinnbkhnonijaaMth
import Derived.Test.YtcinnbkhnonijaaIsa
namespace Go.Proofs.Ytcinnbkhnonijaa
set_option maxRecDepth 10000
open Go.RowKit

/-- A permutation as the list of its places. -/
def toL (n : Nat) (p : Pm) : List Int := (List.range n).map fun (i : Nat) => p.f i
theorem toL_len (n : Nat) (p : Pm) : (toL n p).length = n := by simp [toL]
theorem toL_gi {n i : Nat} (p : Pm) (h : i < n) : gi (toL n p) i = p.f i := by rw [gi_eq (by rw [toL_len]; exact h)]; simp [toL]
theorem toL_bd {n : Nat} {p : Pm} (h : Sup n p) {i : Nat} (hi : i < n) : 0 ≤ gi (toL n p) i ∧ gi (toL n p) i < n := by rw [toL_gi p hi]; exact h.rg (by omega) (by omega)
theorem toL_inj {n : Nat} {p q : Pm} (hp : Sup n p) (hq : Sup n q) (h : toL n p = toL n q) : p = q := Pm.ext_ fun x => by
  by_cases hx : x < 0 ∨ (n : Int) ≤ x
  · rw [hp x hx, hq x hx]
  · have := congrArg (fun l => gi l x.toNat) h
    rw [toL_gi p (by omega), toL_gi q (by omega), show ((x.toNat : Nat) : Int) = x by omega] at this
    exact this
theorem toL_ext {n : Nat} {xs : List Int} {p : Pm} (hl : xs.length = n) (h : ∀ i : Nat, i < n → gi xs i = p.f i) : xs = toL n p := gi_ext (by rw [hl, toL_len]) fun j hj => by rw [toL_gi p (by omega), h j (by omega)]
def pInv (p : Pm) : Pm := ⟨p.g, p.f, p.gf, p.fg⟩
theorem Sup.inv_ {n : Int} {p : Pm} (h : Sup n p) : Sup n (pInv p) := h.g
/-- Does letter k stand in front? -/
def staB (p : Pm) (k : Int) : Bool := decide (p.f k < p.f (k - 1))
/-- The letters below k that stand in front. -/
def stL (p : Pm) : Nat → List Int
  | 0 => []
  | k + 1 => if 1 ≤ k ∧ staB p k = true then stL p k ++ [(k : Int)] else stL p k
theorem stL_len (p : Pm) (k : Nat) : (stL p k).length ≤ k := by
  induction k with
  | zero => exact Nat.le_refl _
  | succ k ih =>
    unfold stL
    split
    · rw [List.length_append]; simp; omega
    · omega
theorem stL_mem {p : Pm} {k : Nat} {x : Int} : x ∈ stL p k ↔ 1 ≤ x ∧ x < k ∧ staB p x = true := by
  induction k with
  | zero => simp only [stL, List.not_mem_nil, false_iff]; omega
  | succ k ih =>
    unfold stL
    split
    · rename_i h
      simp only [List.mem_append, ih, List.mem_singleton]
      constructor
      · rintro (h1 | rfl)
        · exact ⟨h1.1, by omega, h1.2.2⟩
        · exact ⟨by omega, by omega, h.2⟩
      · rintro ⟨h1, h2, h3⟩
        by_cases e : x = k
        · exact .inr e
        · exact .inl ⟨h1, by omega, h3⟩
    · rename_i h
      rw [ih]
      constructor
      · rintro ⟨h1, h2, h3⟩; exact ⟨h1, by omega, h3⟩
      · rintro ⟨h1, h2, h3⟩
        refine ⟨h1, ?_, h3⟩
        by_cases e : x = k
        · subst e; exact absurd ⟨by omega, h3⟩ h
        · omega
theorem stL_one (p : Pm) : stL p 1 = [] := by simp [stL]
theorem stL_yes {p : Pm} {k : Nat} (h1 : 1 ≤ k) (h : staB p k = true) : stL p (k + 1) = stL p k ++ [(k : Int)] := by rw [stL, if_pos ⟨h1, h⟩]
theorem stL_no {p : Pm} {k : Nat} (h : staB p k = false) : stL p (k + 1) = stL p k := by rw [stL, if_neg (by simp [h])]
theorem dec_gt (a b : Int) : decide (b < a) = decide (a > b) := rfl
set_option maxHeartbeats 800000 in
theorem l04Start_any (v : Value) (n : Nat) (p : Pm) (B : Nat) (w : World) (h : Sl w B v (toL n p)) (hB : B ≤ w.heap.size) (hn : n ≤ 1000) :
    Calls Try.prog 85 #[v] w fun e w' => ∃ r, e = .returned r ∧ Ow w' w.heap.size w'.heap.size r (stL p n) ∧ Below w.heap.size w w' := by
  obtain ⟨A, c, rfl, hl, hm, _, hcells⟩ := h
  rw [toL_len] at *
  unfold maxLen at hm
  have HC := Lib.hid hcells
  clear hcells
  have hO := Ow.empty w
  have ha := al1 w (.cells #[] 2)
  have hO' : Ow (w.alloc (.cells #[] 2)) w.heap.size (w.alloc (.cells #[] 2)).heap.size (.slice (some ⟨w.heap.size, 0, none⟩) 0 0) (stL p 1) := by rw [stL_one]; exact hO
  clear hO
  go_enter Try.func85, Try.ntmps85
  go_wp2
  go_loopw [3, 4] (fun o i wr => ∃ k : Nat, 1 ≤ k ∧ (k ≤ n ∨ k = 1) ∧ i = .int .i64 k ∧ Ow wr w.heap.size wr.heap.size o (stL p k) ∧ Below w.heap.size w wr) (fun _ i _ => n - (intOf i).toNat)
  case atStart => exact ⟨1, Nat.le_refl _, .inr rfl, rfl, hO', ha⟩
  case round =>
    obtain ⟨k, hk1, hkn, rfl, hO, hb⟩ := hrel
    by_cases hlt : k < n
    · obtain ⟨b, off, rfl, hbB, hcell⟩ := HC.out (by omega)
      obtain ⟨j, rfl⟩ : ∃ j, k = j + 1 := ⟨k - 1, by omega⟩
      obtain ⟨Y, hY⟩ : ∃ Y, p.f ((j + 1 : Nat) : Int) = Y := ⟨_, rfl⟩
      obtain ⟨X, hX⟩ : ∃ X, p.f (j : Int) = X := ⟨_, rfl⟩
      have q1 : wr.cell? ⟨b, off + (j + 1), none⟩ = some (.int .i64 Y) := by rw [hb.cell (by simp only; omega), hcell _ hlt, toL_gi p hlt, hY]
      have q2 : wr.cell? ⟨b, off + j, none⟩ = some (.int .i64 X) := by rw [hb.cell (by simp only; omega), hcell j (by omega), toL_gi p (by omega), hX]
      have hst : staB p ((j + 1 : Nat) : Int) = decide (Y < X) := by unfold staB; rw [show ((j + 1 : Nat) : Int) - 1 = j by omega, hX, hY]
      have hll := stL_len p (j + 1)
      have b1 : (0 : Int) ≤ (j : Int) := by omega
      have b2 : (j : Int) ≤ 1000 := by omega
      have b4 : (j : Int) < n := by omega
      clear hcell hX hY
      by_cases hc : Y < X
      · have HS := Lib.hid (stL_yes hk1 (by rw [hst]; simp [hc]))
        clear hst
        go_wp2
        go_quiet (fail)
        have hO1 := hO.dr nq
        have hb1 := below_drewN hb nq
        clear hO hb q1 q2
        generalize wr.drewN nq = w1 at hO1 hb1 ⊢
        have hsz := hb1.size
        go_wp2_with (at_builtin; refine wpList_append_one rfl _ _ rfl _ _ _ _ _ ((j : Int) + 1) rfl rfl hO1 hsz (by omega) ?_; intro v1 w2 hO2 hg2 _)
        have hbw := hO1.grown hg2 (Nat.le_refl _) hsz
        go_roundw
        case rel => exact ⟨j + 1 + 1, by omega, by omega, by go_num, by rw [HS.out]; exact hO2, hb1.trans hbw⟩
        case measure => simp [intOf]; omega
      · have HS := Lib.hid (stL_no (k := j + 1) (by rw [hst]; simp [hc]))
        have hc' : X ≤ Y := by omega
        clear hst hc
        go_wp2
        go_quiet (fail)
        go_wp2
        go_roundw
        case rel => exact ⟨j + 1 + 1, by omega, by omega, by go_num, by rw [HS.out]; exact hO.dr _, below_drewN hb _⟩
        case measure => simp [intOf]; omega
    · go_wp2
      go_ret
      refine ⟨_, rfl, ?_, hb⟩
      rcases Nat.eq_zero_or_pos n with h0 | h0
      · have : k = 1 := by omega
        subst this h0
        rw [stL_one] at hO
        exact hO
      · have : k = n := by omega
        subst this
        exact hO
/-- Partly F, partly G. -/
def prg (n : Nat) (F G : Nat → Int) (k : Nat) : List Int := (List.range n).map fun j => if j < k then F j else G j
theorem prg_len (n : Nat) (F G : Nat → Int) (k : Nat) : (prg n F G k).length = n := by simp [prg]
theorem prg_gi {n : Nat} (F G : Nat → Int) (k : Nat) {j : Nat} (h : j < n) : gi (prg n F G k) j = if j < k then F j else G j := by rw [gi_eq (by rw [prg_len]; exact h)]; simp [prg]
theorem prg_set {n : Nat} (F G : Nat → Int) {k : Nat} (_ : k < n) : (prg n F G k).set k (F k) = prg n F G (k + 1) := by
  refine gi_ext (by rw [List.length_set, prg_len, prg_len]) fun j hj => ?_
  rw [List.length_set, prg_len] at hj
  rw [prg_gi F G (k + 1) hj]
  by_cases e : k = j
  · subst e
    rw [gi_eq (by rw [List.length_set, prg_len]; exact hj), List.getElem_set_self, if_pos (by omega)]
  · rw [gi_eq (by rw [List.length_set, prg_len]; exact hj), List.getElem_set_ne e, ← gi_eq (by rw [prg_len]; exact hj), prg_gi F G k hj]
    by_cases h2 : j < k
    · rw [if_pos h2, if_pos (by omega)]
    · rw [if_neg h2, if_neg (by omega)]
theorem prg_skip {n : Nat} (F G : Nat → Int) {k : Nat} (h : F k = G k) : prg n F G (k + 1) = prg n F G k := by
  unfold prg
  refine List.map_congr_left fun j _ => ?_
  by_cases e : j = k
  · subst e; rw [if_pos (by omega), if_neg (by omega), h]
  · by_cases h2 : j < k
    · rw [if_pos h2, if_pos (by omega)]
    · rw [if_neg h2, if_neg (by omega)]
theorem prg_zero (n : Nat) (F G : Nat → Int) : prg n F G 0 = (List.range n).map G := by unfold prg; exact List.map_congr_left fun j _ => by simp
theorem prg_all (n : Nat) (F G : Nat → Int) : prg n F G n = (List.range n).map F := by
  unfold prg
  exact List.map_congr_left fun j hj => by rw [if_pos (List.mem_range.1 hj)]
/-- The inverse, as far as it is made. -/
def ivL (n : Nat) (p : Pm) (k : Nat) : List Int := (List.range n).map fun (v : Nat) => if p.g v < (k : Int) then p.g v else 0
theorem ivL_len (n : Nat) (p : Pm) (k : Nat) : (ivL n p k).length = n := by simp [ivL]
theorem ivL_zero {n : Nat} {p : Pm} (h : Sup n p) : ivL n p 0 = List.replicate n 0 := by
  unfold ivL
  rw [List.eq_replicate_iff]
  refine ⟨by simp, fun x hx => ?_⟩
  obtain ⟨v, hv, rfl⟩ := List.mem_map.1 hx
  have := h.rgg (x := v) (by omega) (by have := List.mem_range.1 hv; omega)
  rw [if_neg (by omega)]
theorem ivL_all {n : Nat} {p : Pm} (h : Sup n p) : ivL n p n = toL n (pInv p) := by
  unfold ivL toL
  refine List.map_congr_left fun v hv => ?_
  have := h.rgg (x := v) (by omega) (by have := List.mem_range.1 hv; omega)
  rw [if_pos (by omega)]; rfl
theorem ivL_set {n : Nat} {p : Pm} {k m : Nat} (hm : p.f (k : Int) = (m : Int)) (_ : m < n) : (ivL n p k).set m (k : Int) = ivL n p (k + 1) := by
  have hg : p.g (m : Int) = k := by rw [← hm, p.gf]
  refine gi_ext (by rw [List.length_set, ivL_len, ivL_len]) fun j hj => ?_
  rw [List.length_set, ivL_len] at hj
  have e1 : ∀ k, gi (ivL n p k) j = if p.g (j : Int) < (k : Int) then p.g (j : Int) else 0 := fun k => by rw [gi_eq (by rw [ivL_len]; exact hj)]; simp [ivL]
  rw [e1]
  by_cases e : m = j
  · subst e
    rw [gi_eq (by rw [List.length_set, ivL_len]; exact hj), List.getElem_set_self, if_pos (by omega), hg]
  · rw [gi_eq (by rw [List.length_set, ivL_len]; exact hj), List.getElem_set_ne e, ← gi_eq (by rw [ivL_len]; exact hj), e1]
    have : p.g (j : Int) ≠ k := fun e2 => e (by have := p.fg (j : Int); rw [e2, hm] at this; omega)
    by_cases h2 : p.g (j : Int) < (k : Int)
    · rw [if_pos h2, if_pos (by omega)]
    · rw [if_neg h2, if_neg (by omega)]
theorem sl_len_eq {w : World} {B : Nat} {v : Value} {n : Nat} {p : Pm} (h : Sl w B v (toL n p)) : ∃ A c, v = .slice A n c ∧ n ≤ c ∧ c ≤ maxLen ∧ (0 < n → ∃ b off, A = some ⟨b, off, none⟩ ∧ b < B ∧ ∀ k, k < n → w.cell? ⟨b, off + k, none⟩ = some (.int .i64 (p.f k))) := by
  obtain ⟨A, c, rfl, hl, hm, -, hc⟩ := h
  rw [toL_len] at *
  refine ⟨A, c, rfl, hl, hm, fun hp => ?_⟩
  obtain ⟨b, off, e, hb, hcell⟩ := hc hp
  exact ⟨b, off, e, hb, fun k hk => by rw [hcell k hk, toL_gi p hk]⟩
set_option maxHeartbeats 800000 in
theorem l04Inverse_any (v : Value) (n : Nat) (p : Pm) (B : Nat) (w : World) (h : Sl w B v (toL n p)) (hB : B ≤ w.heap.size) (hn : n ≤ 1000) (hp : Sup n p) :
    Calls Try.prog 88 #[v] w fun e w' => ∃ r, e = .returned r ∧ Ow w' w.heap.size w'.heap.size r (toL n (pInv p)) ∧ Below w.heap.size w w' := by
  obtain ⟨A, c, rfl, hl, hm, hcells⟩ := sl_len_eq h
  unfold maxLen at hm
  have HC := Lib.hid hcells
  have HP := Lib.hid hp
  have HIA := Lib.hid (ivL_all hp)
  have HI0 := Lib.hid (ivL_zero hp)
  clear hcells h hp
  obtain ⟨i0, hi, hz0, hz1, hz2⟩ := info_parts i64_info
  have HI := Lib.hid hi
  have HZ := Lib.hid hz0
  clear hi hz0
  go_enter Try.func88, Try.ntmps88
  go_wp2_with (at_make; refine wpList_make_full _ rfl _ _ 24 rfl w.heap.size 2 i0 (.int .i64 0) 1 Try.underlying24 HI.out HZ.out hz1 _ _ _ _ n rfl rfl rfl rfl (by rw [hz2]; omega) (by unfold maxLen; omega) (Nat.le_refl _) ?_)
  intro w1 hown hg1
  have hO : Ow w1 w.heap.size w1.heap.size (.slice (some ⟨w.heap.size, 0, none⟩) n n) (ivL n p 0) := by
    refine Ow.of_own hown (ivL_len n p 0).symm ?_
    rw [HI0.out, toList_madeCells_one]
    simp [vals]
  have hb1 : Below w.heap.size w w1 := (Below.refl _ _).grown hg1 (Nat.le_refl _) (by simp)
  clear hown hg1
  go_wp2
  go_loopw [4] (fun i wr => ∃ k : Nat, k ≤ n ∧ i = .int .i64 k ∧ Ow wr w.heap.size wr.heap.size (.slice (some ⟨w.heap.size, 0, none⟩) n n) (ivL n p k) ∧ Below w.heap.size w wr) (fun i _ => n - (intOf i).toNat)
  case atStart => exact ⟨0, Nat.zero_le _, rfl, hO, hb1⟩
  case round =>
    obtain ⟨k, hk, rfl, hO, hb⟩ := hrel
    by_cases hlt : k < n
    · obtain ⟨b, off, rfl, hbB, hcell⟩ := HC.out (by omega)
      have hr := HP.out.rg (x := k) (by omega) (by omega)
      obtain ⟨m, hm2⟩ : ∃ m : Nat, p.f (k : Int) = m := ⟨(p.f (k : Int)).toNat, by omega⟩
      have hmn : m < n := by omega
      have q1 : wr.cell? ⟨b, off + k, none⟩ = some (.int .i64 (m : Int)) := by rw [hb.cell (by simp only; omega), hcell k hlt, hm2]
      obtain ⟨g, cap, hv, hlo, hhi, q2, q3, hO2, hch⟩ := hO.set_ m (by rw [ivL_len]; exact hmn) (k : Int)
      rw [ivL_len] at hv
      obtain rfl : w.heap.size = g := by injection hv with hv _ _; injection hv with hv; injection hv
      rw [ivL_set hm2 hmn] at hO2
      have HO2 := Lib.hid hO2
      have HCH := Lib.hid hch
      generalize gi (ivL n p k) m = D at *
      clear hcell hv hO2 hch hm2 hr
      go_wp2
      go_roundw
      case rel => exact ⟨k + 1, by omega, by go_num, HO2.out.mono (Nat.le_refl _) HCH.out.size, hb.trans (HCH.out.below (Nat.le_refl _) hb.size)⟩
      case measure => simp [intOf]; omega
    · obtain rfl : k = n := by omega
      rw [HIA.out] at hO
      go_wp2
      go_ret
      exact ⟨_, rfl, hO, hb⟩
def idL (k : Nat) : List Int := (List.range k).map fun (i : Nat) => (i : Int)
theorem idL_len (k : Nat) : (idL k).length = k := by simp [idL]
theorem idL_succ (k : Nat) : idL (k + 1) = idL k ++ [(k : Int)] := by simp [idL, List.range_succ]
set_option maxHeartbeats 800000 in
theorem l04Identity_any (n : Nat) (w : World) (hn : n ≤ 1000) :
    Calls Try.prog 73 #[.int .i64 n] w fun e w' => ∃ r, e = .returned r ∧ Ow w' w.heap.size w'.heap.size r (toL n pOne) ∧ Below w.heap.size w w' := by
  have hO : Ow _ _ _ _ (idL 0) := Ow.empty w
  have ha := al1 w (.cells #[] 2)
  go_enter Try.func73, Try.ntmps73
  go_wp2
  go_loopw [3, 4] (fun o i wr => ∃ k : Nat, k ≤ n ∧ i = .int .i64 k ∧ Ow wr w.heap.size wr.heap.size o (idL k) ∧ Below w.heap.size w wr) (fun _ i _ => n - (intOf i).toNat)
  case atStart => exact ⟨0, Nat.zero_le _, rfl, hO, ha⟩
  case round =>
    obtain ⟨k, hk, rfl, hO, hb⟩ := hrel
    by_cases hlt : k < n
    · have hltI : (k : Int) < n := by omega
      have hl := idL_len k
      have HS := Lib.hid (idL_succ k)
      have hsz := hb.size
      go_wp2_with (at_builtin; refine wpList_append_one rfl _ _ rfl _ _ _ _ _ (k : Int) rfl rfl hO hsz (by omega) ?_; intro v1 w2 hO2 hg2 _)
      have hbw := hO.grown hg2 (Nat.le_refl _) hsz
      go_roundw
      case rel => exact ⟨k + 1, by omega, by go_num, by rw [HS.out]; exact hO2, hb.trans hbw⟩
      case measure => simp [intOf]; omega
    · obtain rfl : k = n := by omega
      go_wp2
      go_ret
      exact ⟨_, rfl, hO, hb⟩
def hfL (n k : Nat) : List Int := (List.range k).map fun (i : Nat) => (n : Int) - 1 - i
theorem hfL_len (n k : Nat) : (hfL n k).length = k := by simp [hfL]
theorem hfL_succ (n k : Nat) : hfL n (k + 1) = hfL n k ++ [(n : Int) - 1 - k] := by simp [hfL, List.range_succ]
theorem hfL_all (n : Nat) : hfL n n = toL n (pHalf n) := by
  unfold hfL toL
  refine List.map_congr_left fun i hi => ?_
  have := List.mem_range.1 hi
  exact (hf_in (n := n) (x := i) (by omega) (by omega)).symm
set_option maxHeartbeats 800000 in
theorem l04Half_any (n : Nat) (w : World) (hn : n ≤ 1000) :
    Calls Try.prog 75 #[.int .i64 n] w fun e w' => ∃ r, e = .returned r ∧ Ow w' w.heap.size w'.heap.size r (toL n (pHalf n)) ∧ Below w.heap.size w w' := by
  have hO : Ow _ _ _ _ (hfL n 0) := Ow.empty w
  have ha := al1 w (.cells #[] 2)
  have b0 : (0 : Int) ≤ n := by omega
  have b1 : (n : Int) ≤ 1000 := by omega
  have HA := Lib.hid (hfL_all n)
  go_enter Try.func75, Try.ntmps75
  go_wp2
  go_loopw [3, 4] (fun o i wr => ∃ k : Nat, k ≤ n ∧ i = .int .i64 ((n : Int) - 1 - k) ∧ Ow wr w.heap.size wr.heap.size o (hfL n k) ∧ Below w.heap.size w wr) (fun _ i _ => (intOf i + 1).toNat)
  case atStart => exact ⟨0, Nat.zero_le _, by simp, hO, ha⟩
  case round =>
    obtain ⟨k, hk, rfl, hO, hb⟩ := hrel
    have HS := Lib.hid (hfL_succ n k)
    have hl := hfL_len n k
    have hsz := hb.size
    by_cases hlt : k < n
    · obtain ⟨j, hj⟩ : ∃ j : Nat, (n : Int) - 1 - k = j := ⟨((n : Int) - 1 - k).toNat, by omega⟩
      have hj2 : (j : Int) ≤ 1000 := by omega
      rw [hj]
      rw [hj] at HS
      go_wp2_with (at_builtin; refine wpList_append_one rfl _ _ rfl _ _ _ _ _ (j : Int) rfl rfl hO hsz (by omega) ?_; intro v1 w2 hO2 hg2 _)
      have hbw := hO.grown hg2 (Nat.le_refl _) hsz
      go_roundw
      case rel => exact ⟨k + 1, by omega, by congr 1; omega, by rw [HS.out]; exact hO2, hb.trans hbw⟩
      case measure => simp [intOf]
    · obtain rfl : k = n := by omega
      have e : (k : Int) - 1 - k = -1 := by omega
      rw [e]
      rw [HA.out] at hO
      go_wp2
      go_ret
      exact ⟨_, rfl, hO, hb⟩
set_option maxHeartbeats 1600000 in
theorem l04Behind_any (v : Value) (n : Nat) (p : Pm) (k : Int) (B : Nat) (w : World) (h : Sl w B v (toL n p)) (hB : B ≤ w.heap.size) (hn : n ≤ 1000) (k0 : 0 < k) (k1 : k < n) :
    Calls Try.prog 72 #[v, .int .i64 k] w fun e w' => ∃ r, e = .returned r ∧ Ow w' w.heap.size w'.heap.size r (toL n (beh p k)) ∧ Below w.heap.size w w' := by
  obtain ⟨A, c, rfl, hl, hm, hcells⟩ := sl_len_eq h
  unfold maxLen at hm
  have HC := Lib.hid hcells
  have h1 := toL_len n p
  clear hcells
  have HZ := Lib.hid (prg_zero n (fun j => (beh p k).f j) (fun j => p.f j))
  have HA := Lib.hid (prg_all n (fun j => (beh p k).f j) (fun j => p.f j))
  have b1 : k ≤ 1000 := by omega
  go_enter Try.func72, Try.ntmps72
  go_wp2_with (go_at_call 50; refine (l00Own_any _ _ B _ h hB (by omega)).mono ?_; rintro e w1 ⟨r, rfl, hO, hb⟩)
  rcases hO.form with ⟨-, h0⟩ | ⟨g, cap, rfl, hlo, hhi, -, -, -⟩
  · have := congrArg List.length h0
    rw [toL_len] at this
    simp at this
    omega
  · rw [toL_len] at hO ⊢
    have hO' : Ow w1 w.heap.size w1.heap.size (.slice (some ⟨g, 0, none⟩) n cap) (prg n (fun j => (beh p k).f j) (fun j => p.f j) 0) := by rw [HZ.out]; exact hO
    clear hO
    go_loopw [6] (fun i wr => ∃ j : Nat, j ≤ n ∧ i = .int .i64 j ∧ Ow wr w.heap.size w1.heap.size (.slice (some ⟨g, 0, none⟩) n cap) (prg n (fun j => (beh p k).f j) (fun j => p.f j) j) ∧ w1.heap.size ≤ wr.heap.size ∧ Below w.heap.size w wr) (fun i _ => n - (intOf i).toNat)
    case atStart => exact ⟨0, Nat.zero_le _, rfl, hO', Nat.le_refl _, hb⟩
    case round =>
      obtain ⟨j, hj, rfl, hO, hsz, hb⟩ := hrel
      by_cases hlt : j < n
      · obtain ⟨b, off, rfl, hbB, hcell⟩ := HC.out (by omega)
        obtain ⟨X, hX⟩ : ∃ X, p.f (j : Int) = X := ⟨_, rfl⟩
        have q1 : wr.cell? ⟨b, off + j, none⟩ = some (.int .i64 X) := by rw [hb.cell (by simp only; omega), hcell j hlt, hX]
        have hbeh : (beh p k).f (j : Int) = tr k X := by rw [← hX]; rfl
        obtain ⟨g', cap', hv, -, -, q2, q3, -, -⟩ := hO.set_ j (by rw [prg_len]; exact hlt) 0
        obtain rfl : g = g' := by injection hv with hv _ _; injection hv with hv; injection hv
        have HOS := Lib.hid fun x => hO.set_ j (by rw [prg_len]; exact hlt) x
        clear hv hcell
        generalize gi (prg n (fun j => (beh p k).f j) (fun j => p.f j) j) j = D at *
        by_cases e1 : X = k - 1
        · have HS := Lib.hid (prg_set (fun j => (beh p k).f j) (fun j => p.f j) hlt)
          rw [hbeh, e1, tr_lo] at HS
          obtain ⟨g2, cap2, hv2, -, -, -, -, hO2, hch⟩ := HOS.out k
          obtain rfl : g = g2 := by injection hv2 with hv _ _; injection hv with hv; injection hv
          rw [HS.out] at hO2
          have HO2 := Lib.hid hO2
          have HCH := Lib.hid hch
          subst e1
          have e2 : ((k - 1 : Int) == k - 1) = true := by simp
          have e3 : ((k - 1 : Int) == k) = false := by simp; omega
          clear hv2 hO2 hch hX hbeh
          have q4 : (wr.setCell ⟨g, j, none⟩ (.int .i64 k)).cell? ⟨b, off + j, none⟩ = some (.int .i64 (k - 1)) := by rw [World.cell?_setCell_far _ _ _ _ (by simp only; omega)]; exact q1
          go_wp2
          go_roundw
          case rel => exact ⟨j + 1, by omega, by go_num, HO2.out, Nat.le_trans hsz HCH.out.size, hb.trans (HCH.out.below (Nat.le_refl _) hb.size)⟩
          case measure => simp [intOf]; omega
        · by_cases e2 : X = k
          · have HS := Lib.hid (prg_set (fun j => (beh p k).f j) (fun j => p.f j) hlt)
            rw [hbeh, e2, tr_hi] at HS
            obtain ⟨g2, cap2, hv2, -, -, -, -, hO2, hch⟩ := HOS.out (k - 1)
            obtain rfl : g = g2 := by injection hv2 with hv _ _; injection hv with hv; injection hv
            rw [HS.out] at hO2
            have HO2 := Lib.hid hO2
            have HCH := Lib.hid hch
            subst e2
            have e3 : ((X : Int) == X - 1) = false := by simp; omega
            clear hv2 hO2 hch hX hbeh
            go_wp2
            go_roundw
            case rel => exact ⟨j + 1, by omega, by go_num, HO2.out, Nat.le_trans hsz HCH.out.size, hb.trans (HCH.out.below (Nat.le_refl _) hb.size)⟩
            case measure => simp [intOf]; omega
          · have HS := Lib.hid (prg_skip (n := n) (fun j => (beh p k).f j) (fun j => p.f j) (k := j) (by rw [hbeh, hX, tr_no e1 e2]))
            have e3 : (X == k - 1) = false := by simp [e1]
            have e4 : (X == k) = false := by simp [e2]
            clear hX hbeh
            go_wp2
            go_roundw
            case rel => exact ⟨j + 1, by omega, by go_num, by rw [HS.out]; exact hO, hsz, hb⟩
            case measure => simp [intOf]; omega
      · obtain rfl : j = n := by omega
        rw [HA.out] at hO
        go_wp2
        go_ret
        exact ⟨_, rfl, hO.mono (Nat.le_refl _) hsz, hb⟩
theorem bef_list {n : Nat} {p : Pm} {j : Nat} (h : j + 1 < n) : ((toL n p).set j (p.f ((j + 1 : Nat) : Int))).set (j + 1) (p.f (j : Int)) = toL n (bef ((j + 1 : Nat) : Int) p) := by
  refine toL_ext (by simp [toL_len]) fun i hi => ?_
  show _ = p.f (tr ((j + 1 : Nat) : Int) (i : Int))
  rw [gi_eq (by simp [toL_len]; exact hi)]
  by_cases e1 : i = j + 1
  · subst e1; rw [List.getElem_set_self, tr_hi]; congr 1; omega
  · rw [List.getElem_set_ne (by omega)]
    by_cases e2 : i = j
    · subst e2; rw [List.getElem_set_self, show ((i : Nat) : Int) = ((i + 1 : Nat) : Int) - 1 by omega, tr_lo]
    · rw [List.getElem_set_ne (by omega), ← gi_eq (by rw [toL_len]; exact hi), toL_gi p hi, tr_no (by omega) (by omega)]
set_option maxHeartbeats 1600000 in
theorem l04Before_any (v : Value) (n : Nat) (p : Pm) (k : Int) (B : Nat) (w : World) (h : Sl w B v (toL n p)) (hB : B ≤ w.heap.size) (hn : n ≤ 1000) (k0 : 0 < k) (k1 : k < n) :
    Calls Try.prog 82 #[.int .i64 k, v] w fun e w' => ∃ r, e = .returned r ∧ Ow w' w.heap.size w'.heap.size r (toL n (bef k p)) ∧ Below w.heap.size w w' := by
  obtain ⟨A, c, rfl, hl, hm, hcells⟩ := sl_len_eq h
  unfold maxLen at hm
  have h1 := toL_len n p
  obtain ⟨j, rfl⟩ : ∃ j : Nat, k = ((j + 1 : Nat) : Int) := ⟨(k - 1).toNat, by omega⟩
  have hjn : j + 1 < n := by omega
  have HS := Lib.hid (bef_list (p := p) hjn)
  obtain ⟨b, off, rfl, hbB, hcell⟩ := hcells (by omega)
  obtain ⟨X, hX⟩ : ∃ X, p.f (j : Int) = X := ⟨_, rfl⟩
  obtain ⟨Y, hY⟩ : ∃ Y, p.f ((j + 1 : Nat) : Int) = Y := ⟨_, rfl⟩
  have q1 := hcell j (by omega)
  have q2 := hcell (j + 1) hjn
  rw [hX] at q1
  rw [hY] at q2
  rw [hX, hY] at HS
  have b1 : (0 : Int) ≤ (j : Int) := by omega
  have b2 : (j : Int) ≤ 1000 := by omega
  have b3 : (j : Int) + 1 < n := by omega
  have b4 : (j : Int) < n := by omega
  have HB := Lib.hid hbB
  clear hcell hX hY
  go_enter Try.func82, Try.ntmps82
  go_wp2_with fail
  refine (l00Own_any _ _ B _ h hB (by omega)).mono ?_
  rintro e w1 ⟨r, rfl, hO, hb⟩
  have q3 : w1.cell? ⟨b, off + j, none⟩ = some (.int .i64 X) := by rw [hb.cell (by simp only; omega)]; exact q1
  have q4 : w1.cell? ⟨b, off + (j + 1), none⟩ = some (.int .i64 Y) := by rw [hb.cell (by simp only; omega)]; exact q2
  clear q1 q2
  obtain ⟨g, cap, hv, hlo, hhi, q5, q6, hO2, hch⟩ := hO.set_ j (by rw [toL_len]; omega) Y
  obtain ⟨g2, cap2, hv2, -, -, q7, q8, hO3, hch2⟩ := hO2.set_ (j + 1) (by rw [List.length_set, toL_len]; omega) X
  rw [List.length_set] at hv2
  obtain ⟨rfl, rfl⟩ : g = g2 ∧ cap = cap2 := by rw [hv] at hv2; injection hv2 with h1 _ h3; injection h1 with h1; injection h1 with h1; exact ⟨h1, h3⟩
  rw [toL_len] at hv
  subst hv
  rw [HS.out] at hO3
  have q9 : (w1.setCell ⟨g, j, none⟩ (.int .i64 Y)).cell? ⟨b, off + j, none⟩ = some (.int .i64 X) := by rw [World.cell?_setCell_far _ _ _ _ (by simp only; omega)]; exact q3
  have HO3 := Lib.hid hO3
  have HCH := Lib.hid hch
  have HCH2 := Lib.hid hch2
  generalize gi (toL n p) j = D1 at *
  generalize gi ((toL n p).set j Y) (j + 1) = D2 at *
  clear hO hO2 hO3 hch hch2 hv2
  go_wp2
  go_ret
  exact ⟨_, rfl, HO3.out.mono (Nat.le_refl _) (Nat.le_trans HCH.out.size HCH2.out.size), (hb.trans (HCH.out.below (Nat.le_refl _) hb.size)).trans (HCH2.out.below (Nat.le_refl _) (Nat.le_trans hb.size HCH.out.size))⟩
theorem flip_at {n : Nat} {p : Pm} {j m : Nat} (h : j + m + 1 = n) (hp : Sup n p) : (pFlip n p).f (j : Int) = (n : Int) - 1 - p.f (m : Int) := by
  show hf n (p.f (hf n j)) = _
  rw [hf_in (n := n) (x := j) (by omega) (by omega), show (n : Int) - 1 - j = m by omega]
  have := hp.rg (x := m) (by omega) (by omega)
  rw [hf_in this.1 this.2]
set_option maxHeartbeats 1600000 in
theorem l04Flip_any (v : Value) (n : Nat) (p : Pm) (B : Nat) (w : World) (h : Sl w B v (toL n p)) (hB : B ≤ w.heap.size) (hn : n ≤ 1000) (hp : Sup n p) :
    Calls Try.prog 80 #[v] w fun e w' => ∃ r, e = .returned r ∧ Ow w' w.heap.size w'.heap.size r (toL n (pFlip n p)) ∧ Below w.heap.size w w' := by
  obtain ⟨A, c, rfl, hl, hm, hcells⟩ := sl_len_eq h
  unfold maxLen at hm
  have HC := Lib.hid hcells
  have HP := Lib.hid hp
  have HZ0 := Lib.hid (prg_zero n (fun j => (pFlip n p).f j) (fun _ => 0))
  have HA := Lib.hid (prg_all n (fun j => (pFlip n p).f j) (fun _ => 0))
  have b0 : (n : Int) ≤ 1000 := by omega
  clear hcells h hp
  obtain ⟨i0, hi, hz0, hz1, hz2⟩ := info_parts i64_info
  have HI := Lib.hid hi
  have HZ := Lib.hid hz0
  clear hi hz0
  go_enter Try.func80, Try.ntmps80
  go_wp2_with (at_make; refine wpList_make_full _ rfl _ _ 24 rfl w.heap.size 2 i0 (.int .i64 0) 1 Try.underlying24 HI.out HZ.out hz1 _ _ _ _ n rfl rfl rfl rfl (by rw [hz2]; omega) (by unfold maxLen; omega) (Nat.le_refl _) ?_)
  intro w1 hown hg1
  have hO : Ow w1 w.heap.size w1.heap.size (.slice (some ⟨w.heap.size, 0, none⟩) n n) (prg n (fun j => (pFlip n p).f j) (fun _ => 0) 0) := by
    refine Ow.of_own hown (prg_len _ _ _ _).symm ?_
    rw [HZ0.out, toList_madeCells_one]
    simp [vals, List.map_const']
  have hb1 : Below w.heap.size w w1 := (Below.refl _ _).grown hg1 (Nat.le_refl _) (by simp)
  clear hown hg1
  go_wp2
  go_loopw [5] (fun i wr => ∃ k : Nat, k ≤ n ∧ i = .int .i64 k ∧ Ow wr w.heap.size wr.heap.size (.slice (some ⟨w.heap.size, 0, none⟩) n n) (prg n (fun j => (pFlip n p).f j) (fun _ => 0) k) ∧ Below w.heap.size w wr) (fun i _ => n - (intOf i).toNat)
  case atStart => exact ⟨0, Nat.zero_le _, rfl, hO, hb1⟩
  case round =>
    obtain ⟨k, hk, rfl, hO, hb⟩ := hrel
    by_cases hlt : k < n
    · obtain ⟨b, off, rfl, hbB, hcell⟩ := HC.out (by omega)
      obtain ⟨m, hm2⟩ : ∃ m : Nat, k + m + 1 = n := ⟨n - 1 - k, by omega⟩
      have hmI : (n : Int) - 1 - k = m := by omega
      have hx := HP.out.rg (x := m) (by omega) (by omega)
      have hfl := flip_at hm2 HP.out
      obtain ⟨X, hX⟩ : ∃ X, p.f (m : Int) = X := ⟨_, rfl⟩
      have q1 : wr.cell? ⟨b, off + m, none⟩ = some (.int .i64 X) := by rw [hb.cell (by simp only; omega), hcell m (by omega), hX]
      rw [hX] at hfl hx
      obtain ⟨x0, x1⟩ := hx
      have x2 : X ≤ 1000 := by omega
      have HS := Lib.hid (show (prg n (fun j => (pFlip n p).f j) (fun _ => 0) k).set k ((n : Int) - 1 - X) = prg n (fun j => (pFlip n p).f j) (fun _ => 0) (k + 1) by rw [← hfl]; exact prg_set _ _ hlt)
      obtain ⟨g, cap, hv, hlo, hhi, q2, q3, hO2, hch⟩ := hO.set_ k (by rw [prg_len]; exact hlt) ((n : Int) - 1 - X)
      rw [prg_len] at hv
      obtain rfl : w.heap.size = g := by injection hv with hv _ _; injection hv with hv; injection hv
      rw [HS.out] at hO2
      have HO2 := Lib.hid hO2
      have HCH := Lib.hid hch
      generalize gi (prg n (fun j => (pFlip n p).f j) (fun _ => 0) k) k = D at *
      clear hcell hv hO2 hch hfl hX hm2
      have m0 : (m : Int) < n := by omega
      have m1 : (m : Int) ≤ 1000 := by omega
      go_wp2
      go_roundw
      case rel => exact ⟨k + 1, by omega, by go_num, HO2.out.mono (Nat.le_refl _) HCH.out.size, hb.trans (HCH.out.below (Nat.le_refl _) hb.size)⟩
      case measure => simp [intOf]; omega
    · obtain rfl : k = n := by omega
      rw [HA.out] at hO
      go_wp2
      go_ret
      exact ⟨_, rfl, hO, hb⟩
set_option maxHeartbeats 400000 in
theorem l04Is_any {v1 v2 : Value} {xs ys : List Int} {B1 B2 : Nat} {w : World} {T : Bool} (hT : decide (xs = ys) = T) (h1 : Sl w B1 v1 xs) (h2 : Sl w B2 v2 ys) :
    Calls Try.prog 83 #[v1, v2] w fun e w' => e = .returned (.bool T) ∧ ∃ n, w' = w.drewN n := by
  go_enter Try.func83, Try.ntmps83
  go_wp2_with (go_at_call 87; refine (l00Same_is hT h1 h2).mono ?_; rintro e w1 ⟨rfl, n, rfl⟩)
  go_ret
  exact ⟨rfl, _, rfl⟩
set_option maxHeartbeats 400000 in
theorem l04Finish_any (v : Value) (n : Nat) (p : Pm) (B : Nat) (w : World) (h : Sl w B v (toL n p)) (hB : B ≤ w.heap.size) (hn : n ≤ 1000) (hp : Sup n p) :
    Calls Try.prog 84 #[v] w fun e w' => ∃ r, e = .returned r ∧ Ow w' w.heap.size w'.heap.size r (stL (pInv p) n) ∧ Below w.heap.size w w' := by
  go_enter Try.func84, Try.ntmps84
  go_wp2_with (go_at_call 88; refine (l04Inverse_any _ n p B _ h hB hn hp).mono ?_; rintro e w1 ⟨r1, rfl, hO, hb⟩)
  have hs := hO.sl (Nat.le_refl _)
  go_wp2_with (go_at_call 85; refine (l04Start_any _ n (pInv p) _ _ hs (Nat.le_refl _) hn).mono ?_; rintro e w2 ⟨r2, rfl, hO2, hb2⟩)
  go_ret
  exact ⟨_, rfl, hO2.mono hb.size (Nat.le_refl _), hb.trans (hb2.mono hb.size)⟩
/-- The first letter with which q can begin but p cannot end; 0 if there is none. -/
def exK (n : Nat) (p q : Pm) : Int := (((stL q n).find? fun k => !hasI (stL (pInv p) n) k).getD 0)
theorem hasI_iff {xs : List Int} {k : Int} : hasI xs k = true ↔ k ∈ xs := by simp [hasI]
theorem find_go {l : List Int} {f : Int → Bool} {k : Nat} (hk : k < l.length) (h : ∀ j, j < k → f (gi l j) = false) (h1 : f (gi l k) = true) : l.find? f = some (gi l k) := by
  induction l generalizing k with
  | nil => simp at hk
  | cons x l ih =>
    cases k with
    | zero => exact List.find?_cons_of_pos h1
    | succ k =>
      have h0 := h 0 (by omega)
      rw [List.find?_cons_of_neg (by rw [show x = gi (x :: l) 0 from rfl, h0]; simp)]
      exact ih (by simpa using hk) (fun j hj => h (j + 1) (by omega)) h1
theorem find_no {l : List Int} {f : Int → Bool} (h : ∀ j, j < l.length → f (gi l j) = false) : l.find? f = none := by
  rw [List.find?_eq_none]
  intro x hx
  obtain ⟨j, hj, rfl⟩ := List.getElem_of_mem hx
  have := h j hj
  rw [gi_eq hj] at this
  simp [this]
/-- What the letter says. -/
theorem exK_zero {n : Nat} {p q : Pm} (h : exK n p q = 0) : ∀ k : Int, 0 < k → k < n → Sta k q → Fi k p := by
  intro k k0 k1 hs
  unfold exK at h
  have hm : k ∈ stL q n := stL_mem.2 ⟨by omega, k1, by unfold staB; simp; exact hs⟩
  cases hf : (stL q n).find? fun k => !hasI (stL (pInv p) n) k with
  | none =>
    have := List.find?_eq_none.1 hf k hm
    simp only [Bool.not_eq_true, Bool.not_eq_false'] at this
    have h2 := stL_mem.1 (hasI_iff.1 this)
    have h3 := h2.2.2
    unfold staB at h3
    simp at h3
    exact h3
  | some x =>
    rw [hf] at h
    have h2 := stL_mem.1 (List.mem_of_find?_eq_some hf)
    simp at h
    omega
theorem exK_some {n : Nat} {p q : Pm} (h : exK n p q ≠ 0) : 0 < exK n p q ∧ exK n p q < n ∧ ¬ Fi (exK n p q) p ∧ Sta (exK n p q) q := by
  unfold exK at h ⊢
  cases hf : (stL q n).find? fun k => !hasI (stL (pInv p) n) k with
  | none => rw [hf] at h; simp at h
  | some x =>
    simp only [Option.getD_some]
    have h2 := stL_mem.1 (List.mem_of_find?_eq_some hf)
    have h3 := List.find?_some hf
    refine ⟨by omega, h2.2.1, fun hfi => ?_, by have h4 := h2.2.2; unfold staB at h4; simp at h4; exact h4⟩
    have : hasI (stL (pInv p) n) x = true := hasI_iff.2 (stL_mem.2 ⟨h2.1, h2.2.1, by unfold staB; simp; exact hfi⟩)
    simp [this] at h3
theorem l00Has_is {v : Value} {xs : List Int} {k : Int} {B : Nat} {w : World} {T : Bool} (hT : hasI xs k = T) (h : Sl w B v xs) : Calls Try.prog 86 #[v, .int .i64 k] w fun e w' => e = .returned (.bool T) ∧ w = w' := by
  rw [← hT]; exact l00Has_any v xs k B w h
set_option maxHeartbeats 1600000 in
theorem l04Extra_any (v u : Value) (n : Nat) (p q : Pm) (B : Nat) (w : World) (h : Sl w B v (toL n p)) (h2 : Sl w B u (toL n q)) (hB : B ≤ w.heap.size) (hn : n ≤ 1000) (hp : Sup n p) :
    Calls Try.prog 81 #[v, u] w fun e w' => e = .returned (.int .i64 (exK n p q)) ∧ Below w.heap.size w w' := by
  go_enter Try.func81, Try.ntmps81
  go_wp2_with (go_at_call 84; refine (l04Finish_any _ n p B _ h hB hn hp).mono ?_; rintro e w1 ⟨r1, rfl, hO, hb⟩)
  have hs := h2.below hb hB
  go_wp2_with (go_at_call 85; refine (l04Start_any _ n q B _ hs (Nat.le_trans hB hb.size) hn).mono ?_; rintro e w2 ⟨r2, rfl, hO2, hb2⟩)
  have s1 := (hO.below hb2 (Nat.le_refl _)).sl (Nat.le_refl _)
  have hbb := hb.trans (hb2.mono hb.size)
  obtain ⟨A, c, rfl, hl, hm, -, hcells⟩ := hO2.sl (Nat.le_refl _)
  have hlen := stL_len q n
  unfold maxLen at hm
  have HC := Lib.hid hcells
  clear hcells hO hO2 hb hb2 h h2
  go_loop [7] (fun i => ∃ k : Nat, k ≤ (stL q n).length ∧ i = .int .i64 k ∧ ∀ j, j < k → hasI (stL (pInv p) n) (gi (stL q n) j) = true) (fun i => (stL q n).length - (intOf i).toNat)
  case atStart => exact ⟨0, Nat.zero_le _, rfl, fun j hj => absurd hj (Nat.not_lt_zero _)⟩
  case round =>
    obtain ⟨k, hk, rfl, hgood⟩ := hrel
    have HG := Lib.hid hgood
    clear hgood
    by_cases hlt : k < (stL q n).length
    · obtain ⟨b, off, rfl, hbB, hcell⟩ := HC.out (by omega)
      have q1 := hcell k hlt
      clear hcell
      cases hT : hasI (stL (pInv p) n) (gi (stL q n) k)
      · have HF := Lib.hid (show exK n p q = gi (stL q n) k by unfold exK; rw [find_go hlt (fun j hj => by rw [HG.out j hj]; rfl) (by rw [hT]; rfl)]; rfl)
        go_wp2_with (go_at_call 86; refine (l00Has_is hT s1).mono ?_; rintro e w' ⟨rfl, rfl⟩)
        go_ret
        exact ⟨ret_int HF.out.symm, hbb⟩
      · have HT := Lib.hid hT
        go_wp2_with (go_at_call 86; refine (l00Has_is hT s1).mono ?_; rintro e w' ⟨rfl, rfl⟩)
        go_round
        case rel =>
          refine ⟨k + 1, by omega, by go_num, fun j hj => ?_⟩
          by_cases hjk : j < k
          · exact HG.out j hjk
          · obtain rfl : j = k := by omega
            exact HT.out
        case measure => simp [intOf]; omega
    · have HF := Lib.hid (show exK n p q = 0 by unfold exK; rw [find_no fun j hj => by rw [HG.out j (by omega)]; rfl]; rfl)
      go_wp2
      go_ret
      exact ⟨ret_int HF.out.symm, hbb⟩
end Go.Proofs.Ytcinnbkhnonijaa
