/-
  Contract: the reference's l00Put (a number put to its place among rising ones, once).
-/
import Derived.Test.YtpiodiliifnckaaPut
import Derived.Test.YtpiodiliifnckaaSt
namespace Go.Proofs.Ytpiodiliifnckaa
set_option maxRecDepth 10000
open Go.RowKit

def pstep (n : Int) (s : List Int × Bool) (x : Int) : List Int × Bool := if s.2 = false ∧ n ≤ x then ((if n < x then s.1 ++ [n] else s.1) ++ [x], true) else (s.1 ++ [x], s.2)
def pfin (n : Int) (s : List Int × Bool) : List Int := if s.2 then s.1 else s.1 ++ [n]
theorem pfold_true (n : Int) (o xs : List Int) : xs.foldl (pstep n) (o, true) = (o ++ xs, true) := by
  induction xs generalizing o with
  | nil => simp
  | cons a t ih => rw [List.foldl_cons, show pstep n (o, true) a = (o ++ [a], true) by simp [pstep], ih]; simp
theorem pfold (n : Int) (o xs : List Int) : pfin n (xs.foldl (pstep n) (o, false)) = o ++ putI xs n := by
  induction xs generalizing o with
  | nil => simp [pfin, putI]
  | cons a t ih =>
    rw [List.foldl_cons]
    by_cases h : n ≤ a
    · by_cases h2 : n < a
      · rw [show pstep n (o, false) a = (o ++ [n] ++ [a], true) by simp [pstep, h, h2], pfold_true]
        simp [pfin, putI, h2]
      · have e : a = n := by omega
        rw [show pstep n (o, false) a = (o ++ [a], true) by simp [pstep, h, h2], pfold_true]
        simp [pfin, putI, e]
    · rw [show pstep n (o, false) a = (o ++ [a], false) by simp [pstep, h], ih]
      have h2 : ¬ n < a := by omega
      have h3 : ¬ a = n := by omega
      simp [putI, h2, h3]
def pst (n : Int) (xs : List Int) (k : Nat) : List Int × Bool := (xs.take k).foldl (pstep n) ([], false)
theorem pst_zero (n : Int) (xs : List Int) : pst n xs 0 = ([], false) := by simp [pst]
theorem pst_succ (n : Int) {xs : List Int} {k : Nat} (h : k < xs.length) : pst n xs (k + 1) = pstep n (pst n xs k) (gi xs k) := by unfold pst; rw [take_gi h, List.foldl_append]; rfl
theorem pst_all (n : Int) (xs : List Int) : pfin n (pst n xs xs.length) = putI xs n := by unfold pst; rw [List.take_length, pfold]; simp
theorem pst_len (n : Int) (xs : List Int) (k : Nat) (h : k ≤ xs.length) : (pst n xs k).1.length ≤ 2 * k := by
  induction k with
  | zero => simp [pst_zero]
  | succ k ih =>
    have := ih (by omega)
    rw [pst_succ n (by omega)]
    unfold pstep
    split
    · split <;> simp <;> omega
    · simp; omega
set_option maxHeartbeats 3200000 in
theorem l00Put_any (v : Value) (xs : List Int) (n : Int) (B : Nat) (w : World) (h : Sl w B v xs) (hB : B ≤ w.heap.size) (hsz : xs.length ≤ 1000000) :
    Calls Try.prog 53 #[v, .int .i64 n] w fun e w' => ∃ r, e = .returned r ∧ Ow w' w.heap.size w'.heap.size r (putI xs n) ∧ Below w.heap.size w w' := by
  obtain ⟨A, c, rfl, hl, hm, -, hcells⟩ := id h
  unfold maxLen at hm
  have HC := Lib.hid hcells
  have hO0 := Ow.empty w
  have hb0 := al1 w (.cells #[] 2)
  clear hcells h
  go_enter Try.func53, Try.ntmps53
  go_wp2
  go_loopw [5, 6, 7] (fun o d i wr => ∃ k : Nat, k ≤ xs.length ∧ i = .int .i64 k ∧ d = .bool (pst n xs k).2 ∧ Ow wr w.heap.size wr.heap.size o (pst n xs k).1 ∧ Below w.heap.size w wr) (fun _ _ i _ => xs.length - (intOf i).toNat)
  case atStart => exact ⟨0, Nat.zero_le _, rfl, by rw [pst_zero], by rw [pst_zero]; exact hO0, hb0⟩
  case round =>
    obtain ⟨k, hk, rfl, rfl, hO, hb⟩ := hrel
    clear hO0 hb0
    have hz := hb.size
    have HB := Lib.hid hb
    have hpl := pst_len n xs k hk
    have hpl2 : (pst n xs k).1.length ≤ 100000000 := by omega
    clear hb hpl
    by_cases hlt : k < xs.length
    · obtain ⟨b, off, rfl, hbB, hcell⟩ := HC.out (by omega)
      have q1 : wr.cell? ⟨b, off + k, none⟩ = some (.int .i64 (gi xs k)) := by rw [HB.out.cell (by simp only; omega)]; exact hcell k hlt
      have HS := Lib.hid (pst_succ n hlt)
      have hbw : b < wr.heap.size := by omega
      clear hcell
      generalize gi xs k = x at *
      obtain ⟨st, hst⟩ : ∃ st, st = pst n xs k := ⟨_, rfl⟩
      rw [← hst] at HS hO hpl2 ⊢
      clear hst
      obtain ⟨acc, d⟩ := st
      simp only at hO hpl2 ⊢
      cases d
      · by_cases h1 : n ≤ x
        · have hge : x ≥ n := h1
          by_cases h2 : n < x
          · have HT := Lib.hid (HS.out.trans (show pstep n (acc, false) x = (acc ++ [n] ++ [x], true) by simp [pstep, h1, h2]))
            have hgt : x > n := h2
            go_wp2_with (first | (at_builtin; refine wpList_append_one rfl _ _ rfl _ _ _ _ acc n rfl rfl hO hz (by omega) ?_; intro v1 w1 hO1 hg1 _; have hb1 := Below.trans HB.out (hO.grown hg1 (Nat.le_refl _) hz); have HB1 := Lib.hid hb1; have HO1 := Lib.hid hO1; have hz1 := hb1.size; have q2 : w1.cell? ⟨b, off + k, none⟩ = some (.int .i64 x) := (by rw [hb1.cell (by simp only; omega), ← HB.out.cell (by simp only; omega)]; exact q1); have hbw1 : b < w1.heap.size := (by omega); clear hO1 hg1 hb1) | (at_builtin; refine wpList_append_one rfl _ _ rfl _ _ _ _ (acc ++ [n]) x rfl rfl HO1.out hz1 (by simp; omega) ?_; intro v2 w2 hO2 hg2 _; have hb2 := Below.trans HB1.out (HO1.out.grown hg2 (Nat.le_refl _) hz1)))
            go_roundw
            case rel => exact ⟨k + 1, by omega, by go_num, by rw [HT.out], by rw [HT.out]; exact hO2, hb2⟩
            case measure => simp [intOf]; omega
          · have HT := Lib.hid (HS.out.trans (show pstep n (acc, false) x = (acc ++ [x], true) by simp [pstep, h1, h2]))
            have hgt : ¬ x > n := h2
            go_wp2_with (at_builtin; refine wpList_append_one rfl _ _ rfl _ _ _ _ acc x rfl rfl hO hz (by omega) ?_; intro v2 w2 hO2 hg2 _; have hb2 := Below.trans HB.out (hO.grown hg2 (Nat.le_refl _) hz))
            go_roundw
            case rel => exact ⟨k + 1, by omega, by go_num, by rw [HT.out], by rw [HT.out]; exact hO2, hb2⟩
            case measure => simp [intOf]; omega
        · have hge : ¬ x ≥ n := h1
          have HT := Lib.hid (HS.out.trans (show pstep n (acc, false) x = (acc ++ [x], false) by simp [pstep, h1]))
          go_wp2_with (at_builtin; refine wpList_append_one rfl _ _ rfl _ _ _ _ acc x rfl rfl hO hz (by omega) ?_; intro v2 w2 hO2 hg2 _; have hb2 := Below.trans HB.out (hO.grown hg2 (Nat.le_refl _) hz))
          go_roundw
          case rel => exact ⟨k + 1, by omega, by go_num, by rw [HT.out], by rw [HT.out]; exact hO2, hb2⟩
          case measure => simp [intOf]; omega
      · have HT := Lib.hid (HS.out.trans (show pstep n (acc, true) x = (acc ++ [x], true) by simp [pstep]))
        go_wp2_with (at_builtin; refine wpList_append_one rfl _ _ rfl _ _ _ _ acc x rfl rfl hO hz (by omega) ?_; intro v2 w2 hO2 hg2 _; have hb2 := Below.trans HB.out (hO.grown hg2 (Nat.le_refl _) hz))
        go_roundw
        case rel => exact ⟨k + 1, by omega, by go_num, by rw [HT.out], by rw [HT.out]; exact hO2, hb2⟩
        case measure => simp [intOf]; omega
    · obtain rfl : k = xs.length := by omega
      have HF := Lib.hid (pst_all n xs)
      obtain ⟨st, hst⟩ : ∃ st, st = pst n xs xs.length := ⟨_, rfl⟩
      rw [← hst] at HF hO hpl2 ⊢
      clear hst
      obtain ⟨acc, d⟩ := st
      simp only at hO hpl2 ⊢
      cases d
      · have HT := Lib.hid (HF.out.symm.trans (show pfin n (acc, false) = acc ++ [n] by simp [pfin]))
        go_wp2_with (at_builtin; refine wpList_append_one rfl _ _ rfl _ _ _ _ acc n rfl rfl hO hz (by omega) ?_; intro v2 w2 hO2 hg2 _; have hb2 := Below.trans HB.out (hO.grown hg2 (Nat.le_refl _) hz))
        go_ret
        exact ⟨_, rfl, by rw [HT.out]; exact hO2, hb2⟩
      · have HT := Lib.hid (HF.out.symm.trans (show pfin n (acc, true) = acc by simp [pfin]))
        go_wp2_with fail
        go_ret
        exact ⟨_, rfl, by rw [HT.out]; exact hO, HB.out⟩
end Go.Proofs.Ytpiodiliifnckaa
