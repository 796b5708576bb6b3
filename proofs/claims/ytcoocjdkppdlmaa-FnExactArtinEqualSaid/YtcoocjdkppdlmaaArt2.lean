/-
  Contracts: the generators and the images under a letter (the reference's l05Unit, l05Letter).
-/
import Derived.Test.YtcoocjdkppdlmaaAct3
import Derived.Test.YtcoocjdkppdlmaaArt
namespace Go.Proofs.Ytcoocjdkppdlmaa
set_option maxRecDepth 10000
open Go.RowKit

theorem ab_pos' {x : Int} (h : x ≠ 0) : 0 < ab x := by unfold ab; omega
def unitL (n : Nat) : List (List Int) := (List.range n).map fun (i : Nat) => [(i : Int) + 1]
theorem unitL_len (n : Nat) : (unitL n).length = n := by simp [unitL]
theorem unitL_succ (n : Nat) : unitL (n + 1) = unitL n ++ [[(n : Int) + 1]] := by simp [unitL, List.range_succ]
theorem unitL_gl {n j : Nat} (h : j < n) : gl (unitL n) j = [(j : Int) + 1] := by rw [gl_eq (by rw [unitL_len]; exact h)]; simp [unitL]
set_option maxHeartbeats 800000 in
theorem l05Unit_any (n : Nat) (w : World) (hn : n ≤ 12) :
    Calls Try.prog 91 #[.int .i64 n] w fun e w' => ∃ r, e = .returned r ∧ OwS w' (Iv w.heap.size w'.heap.size) r (unitL n) ∧ Below w.heap.size w w' := by
  have hO := OwS.empty w
  have ha := al1 w (.cells #[] 23)
  go_enter Try.func91, Try.ntmps91
  go_wp2
  go_loopw [3, 4] (fun o i wr => ∃ k : Nat, k ≤ n ∧ i = .int .i64 ((k : Int) + 1) ∧ OwS wr (Iv w.heap.size wr.heap.size) o (unitL k) ∧ Below w.heap.size w wr) (fun _ i _ => n + 1 - (intOf i).toNat)
  case atStart => exact ⟨0, Nat.zero_le _, rfl, hO, ha⟩
  case round =>
    obtain ⟨k, hk, rfl, hO, hb⟩ := hrel
    by_cases hlt : k < n
    · have hltI : (k : Int) + 1 ≤ n := by omega
      have hu := ow_lit1 wr ((k : Int) + 1)
      have hl := unitL_len k
      have hO1 := hO.below (al1 wr (.cells #[.int .i64 ((k : Int) + 1)] 2)) (Nat.le_refl _)
      have hsz := hb.size
      have hsz1 := (al1 wr (.cells #[.int .i64 ((k : Int) + 1)] 2)).size
      have hsz2 : wr.heap.size + 1 = (wr.alloc (.cells #[.int .i64 ((k : Int) + 1)] 2)).heap.size := (World.size_alloc _ _).symm
      have HS := Lib.hid (unitL_succ k)
      have HZ := Lib.hid hsz2
      clear hsz2
      go_wp2_with (at_builtin; refine wpList_append_row rfl _ _ rfl (wr.alloc (.cells #[.int .i64 ((k : Int) + 1)] 2)) _ _ _ _ _ _ rfl (by rw [← HZ.out]; rfl) hO1 hu hsz hsz1 (by omega) ?_; intro v1 w6 hO6 hb7)
      go_roundw
      case rel => exact ⟨k + 1, by omega, by go_num, by rw [HS.out]; exact hO6, (hb.trans ((al1 wr _).mono hsz)).trans hb7⟩
      case measure => simp [intOf]; omega
    · obtain rfl : k = n := by omega
      go_wp2
      go_ret
      exact ⟨_, rfl, hO, hb⟩
def letterRows (n : Nat) (l : Int) : List (List Int) := ((unitL n).set (ab l - 1).toNat (im1 l)).set (ab l).toNat (im2 l)
theorem letterRows_len (n : Nat) (l : Int) : (letterRows n l).length = n := by simp [letterRows, unitL_len]
theorem letterRows_gl {n j : Nat} {l : Int} (h : j < n) (hl : l ≠ 0) : gl (letterRows n l) j = if (j : Int) + 1 = ab l then im1 l else if (j : Int) = ab l then im2 l else [(j : Int) + 1] := by
  have hk : 0 < ab l := ab_pos' hl
  have h0 := unitL_gl h
  rw [gl_eq (by rw [unitL_len]; exact h)] at h0
  rw [gl_eq (by rw [letterRows_len]; exact h)]
  simp only [letterRows, List.getElem_set]
  by_cases h1 : (ab l).toNat = j
  · rw [if_pos h1, if_neg (by omega), if_pos (by omega)]
  · rw [if_neg h1]
    by_cases h2 : (ab l - 1).toNat = j
    · rw [if_pos h2, if_pos (by omega)]
    · rw [if_neg h2, if_neg (by omega), if_neg (by omega), h0]
theorem imgA_letter {n : Nat} {l g : Int} (hl : l ≠ 0) (hg : g ≠ 0) (hn : ab g ≤ n) : imgA (letterRows n l) g = imgL l g := by
  have hg0 := ab_pos' hg
  have hj : (ab g - 1).toNat < n := by omega
  have hgl := letterRows_gl hj hl
  have e : (((ab g - 1).toNat : Nat) : Int) = ab g - 1 := by omega
  rw [e] at hgl
  unfold imgA imgL
  rw [hgl]
  by_cases h1 : ab g = ab l
  · rw [if_pos h1, if_pos (show ab g - 1 + 1 = ab l by omega)]
  · rw [if_neg h1, if_neg (show ¬ ab g - 1 + 1 = ab l by omega)]
    by_cases h2 : ab g = ab l + 1
    · rw [if_pos h2, if_pos (show ab g - 1 = ab l by omega)]
    · rw [if_neg h2, if_neg (show ¬ ab g - 1 = ab l by omega)]
      have h3 : ab g - 1 + 1 = ab g := by omega
      rw [h3]
      by_cases h4 : 0 < g
      · rw [if_pos h4, show ab g = g by unfold ab; omega]
      · rw [if_neg h4, show inv [ab g] = [-ab g] by simp [inv], show -ab g = g by unfold ab; omega]
theorem set_below_ {B : Nat} {w w1 : World} {p : Addr} {x : Value} (hp : B ≤ p.block) (h : Below B w w1) : Below B w (w1.setCell p x) :=
  ⟨h.os, h.tape, h.output, by simpa [World.setCell] using h.size, fun b hb => by rw [Below.heap_setCell _ _ _ _ (by omega)]; exact h.block b hb⟩
theorem ow_lit3 (w : World) (a b c : Int) : Ow (w.alloc (.cells #[.int .i64 a, .int .i64 b, .int .i64 c] 2)) w.heap.size (w.alloc (.cells #[.int .i64 a, .int .i64 b, .int .i64 c] 2)).heap.size (.slice (some ⟨w.heap.size, 0, none⟩) 3 3) [a, b, c] :=
  ⟨⟨by simp [vals], .inr ⟨w.heap.size, 3, #[.int .i64 a, .int .i64 b, .int .i64 c], rfl, Nat.le_refl _, alloc_at_ _ _, Nat.le_refl _, by simp [maxLen], rfl, rfl⟩⟩, fun g hg => by simp [Value.ownBlock] at hg; subst hg; rw [World.size_alloc]; exact Nat.lt_succ_self _⟩
set_option maxHeartbeats 1600000 in
theorem two_sets_w (w : World) (o1 o2 : Obj) (g k1 k2 : Nat) (u1 u2 : Value) (h : g < w.heap.size) :
    (((w.alloc o1).setCell ⟨g, k1, none⟩ u1).alloc o2).setCell ⟨g, k2, none⟩ u2 = (((w.setCell ⟨g, k1, none⟩ u1).setCell ⟨g, k2, none⟩ u2).alloc o1).alloc o2 := by
  rw [World.setCell_alloc_past _ _ _ _ h, World.setCell_alloc_past _ _ _ _ (by simp [World.setCell, World.alloc]; omega), World.setCell_alloc_past _ _ _ _ (by simp [World.setCell]; omega)]
theorem l05Letter_any (n : Nat) (l : Int) (w : World) (hn : n ≤ 12) (hl : l ≠ 0) (h1 : 1 - (n : Int) ≤ l) (h2 : l ≤ (n : Int) - 1) :
    Calls Try.prog 92 #[.int .i64 n, .int .i64 l] w fun e w' => ∃ r, e = .returned r ∧ OwS w' (Iv w.heap.size w'.heap.size) r (letterRows n l) ∧ Below w.heap.size w w' := by
  obtain ⟨k, hk⟩ : ∃ k : Nat, ab l = (k : Int) + 1 := ⟨(ab l - 1).toNat, by have := ab_pos' hl; omega⟩
  have hkn : k + 1 < n := by unfold ab at hk; omega
  have HLR := Lib.hid (show letterRows n l = ((unitL n).set k (im1 l)).set (k + 1) (im2 l) by rw [letterRows, hk, show ((k : Int) + 1 - 1).toNat = k by omega, show ((k : Int) + 1).toNat = k + 1 by omega])
  have hln := unitL_len n
  have hl11 : -1000 ≤ l ∧ l ≤ 1000 := by omega
  obtain ⟨l3, l4⟩ := hl11
  by_cases hp : 0 < l
  · have hlk : l = (k : Int) + 1 := by unfold ab at hk; omega
    have HI1 := Lib.hid (show im1 l = [(k : Int) + 1, (k : Int) + 1 + 1, -((k : Int) + 1)] by rw [im1, if_pos hp, hk])
    have HI2 := Lib.hid (show im2 l = [(k : Int) + 1] by rw [im2, if_pos hp, hk])
    have hnk : (k : Int) + 1 < n := by omega
    subst hlk
    go_enter Try.func92, Try.ntmps92
    go_wp2_with fail
    refine (l05Unit_any n _ hn).mono ?_
    rintro e w1 ⟨r1, rfl, hO, hb⟩
    have hO1 := hO.below (al1 w1 (.cells #[.int .i64 ((k : Int) + 1), .int .i64 ((k : Int) + 1 + 1), .int .i64 (-((k : Int) + 1))] 2)) (Nat.le_refl _)
    obtain ⟨g, c, x, hv, hlo, hhi, q2, q3, hO2, hch⟩ := OwS.set_ hO1 k (by rw [hln]; omega) (ow_lit3 w1 ((k : Int) + 1) ((k : Int) + 1 + 1) (-((k : Int) + 1))) (al1 _ _).size
    obtain ⟨g3, c3, x3, hv3, -, -, q6, q7, -, -⟩ := OwS.set_ hO (k + 1) (by rw [hln]; omega) (Ow.nil w1 w1.heap.size w1.heap.size) (Nat.le_refl _)
    obtain ⟨rfl, rfl⟩ : g = g3 ∧ c = c3 := by rw [hv] at hv3; injection hv3 with h1 _ h3; injection h1 with h1; injection h1 with h1; exact ⟨h1, h3⟩
    clear hv3
    rw [hln] at hv
    subst hv
    have hO3 := hO2.below (al1 ((w1.alloc (.cells #[.int .i64 ((k : Int) + 1), .int .i64 ((k : Int) + 1 + 1), .int .i64 (-((k : Int) + 1))] 2)).setCell ⟨g, k, none⟩ (.slice (some ⟨w1.heap.size, 0, none⟩) 3 3)) (.cells #[.int .i64 ((k : Int) + 1)] 2)) (Nat.le_refl _)
    have hu2 : ∀ z, z = ((w1.alloc (.cells #[.int .i64 ((k : Int) + 1), .int .i64 ((k : Int) + 1 + 1), .int .i64 (-((k : Int) + 1))] 2)).setCell ⟨g, k, none⟩ (.slice (some ⟨w1.heap.size, 0, none⟩) 3 3)).heap.size → Ow (((w1.alloc (.cells #[.int .i64 ((k : Int) + 1), .int .i64 ((k : Int) + 1 + 1), .int .i64 (-((k : Int) + 1))] 2)).setCell ⟨g, k, none⟩ (.slice (some ⟨w1.heap.size, 0, none⟩) 3 3)).alloc (.cells #[.int .i64 ((k : Int) + 1)] 2)) ((w1.alloc (.cells #[.int .i64 ((k : Int) + 1), .int .i64 ((k : Int) + 1 + 1), .int .i64 (-((k : Int) + 1))] 2)).setCell ⟨g, k, none⟩ (.slice (some ⟨w1.heap.size, 0, none⟩) 3 3)).heap.size (((w1.alloc (.cells #[.int .i64 ((k : Int) + 1), .int .i64 ((k : Int) + 1 + 1), .int .i64 (-((k : Int) + 1))] 2)).setCell ⟨g, k, none⟩ (.slice (some ⟨w1.heap.size, 0, none⟩) 3 3)).alloc (.cells #[.int .i64 ((k : Int) + 1)] 2)).heap.size (.slice (some ⟨z, 0, none⟩) 1 1) [(k : Int) + 1] := fun z hz => by rw [hz]; exact ow_lit1 _ _
    obtain ⟨g2, c2, x2, hv2, hlo2, hhi2, q4, q5, hO5, hch2⟩ := OwS.set_ hO3 (k + 1) (by simp [hln]; omega) (hu2 (w1.heap.size + 1) (by simp [World.setCell])) (al1 _ _).size
    obtain ⟨rfl, rfl⟩ : g = g2 ∧ c = c2 := by injection hv2 with h1 _ h3; injection h1 with h1; injection h1 with h1; exact ⟨h1, h3⟩
    have HO5 := Lib.hid hO5
    have HCH := Lib.hid hch
    have HCH2 := Lib.hid hch2
    clear hO1 hO2 hO3 hu2 hO5 hch hch2 hv2
    obtain ⟨A, c0, e0, hl1, hm1, -⟩ := hO.sl fun b hb => hb.2
    rw [hln] at e0 hl1
    injection e0 with e0 _ e1
    subst e0 e1
    unfold maxLen at hm1
    have hk1 : (k : Int) < n := by omega
    have hk0 : (0 : Int) ≤ k := by omega
    go_wp2_with (go_at_call 102; refine (l03Abs_any _ _ (by omega) (by omega)).mono ?_; rintro e w' ⟨rfl, rfl⟩; rw [hk])
    go_ret
    refine ⟨_, rfl, ?_, ?_⟩
    · rw [HLR.out, HI1.out, HI2.out, ← two_sets_w w1 _ _ g k (k + 1) _ _ hhi]
      exact HO5.out
    · rw [← two_sets_w w1 _ _ g k (k + 1) _ _ hhi]
      exact set_below_ hlo ((set_below_ hlo (hb.trans ((al1 _ _).mono hb.size))).trans ((al1 _ _).mono (by simp [World.setCell]; have := hb.size; omega)))
  · have hlk : l = -((k : Int) + 1) := by unfold ab at hk; omega
    have HI1 := Lib.hid (show im1 l = [(k : Int) + 1 + 1] by rw [im1, if_neg hp, hk])
    have HI2 := Lib.hid (show im2 l = [-((k : Int) + 1) - 1, (k : Int) + 1, (k : Int) + 1 + 1] by rw [im2, if_neg hp, hk])
    have hnk : (k : Int) + 1 < n := by omega
    subst hlk
    go_enter Try.func92, Try.ntmps92
    go_wp2_with fail
    refine (l05Unit_any n _ hn).mono ?_
    rintro e w1 ⟨r1, rfl, hO, hb⟩
    have hO1 := hO.below (al1 w1 (.cells #[.int .i64 ((k : Int) + 1 + 1)] 2)) (Nat.le_refl _)
    obtain ⟨g, c, x, hv, hlo, hhi, q2, q3, hO2, hch⟩ := OwS.set_ hO1 k (by rw [hln]; omega) (ow_lit1 w1 ((k : Int) + 1 + 1)) (al1 _ _).size
    obtain ⟨g3, c3, x3, hv3, -, -, q6, q7, -, -⟩ := OwS.set_ hO (k + 1) (by rw [hln]; omega) (Ow.nil w1 w1.heap.size w1.heap.size) (Nat.le_refl _)
    obtain ⟨rfl, rfl⟩ : g = g3 ∧ c = c3 := by rw [hv] at hv3; injection hv3 with h1 _ h3; injection h1 with h1; injection h1 with h1; exact ⟨h1, h3⟩
    clear hv3
    rw [hln] at hv
    subst hv
    have hO3 := hO2.below (al1 ((w1.alloc (.cells #[.int .i64 ((k : Int) + 1 + 1)] 2)).setCell ⟨g, k, none⟩ (.slice (some ⟨w1.heap.size, 0, none⟩) 1 1)) (.cells #[.int .i64 (-((k : Int) + 1) - 1), .int .i64 ((k : Int) + 1), .int .i64 ((k : Int) + 1 + 1)] 2)) (Nat.le_refl _)
    have hu2 : ∀ z, z = ((w1.alloc (.cells #[.int .i64 ((k : Int) + 1 + 1)] 2)).setCell ⟨g, k, none⟩ (.slice (some ⟨w1.heap.size, 0, none⟩) 1 1)).heap.size → Ow (((w1.alloc (.cells #[.int .i64 ((k : Int) + 1 + 1)] 2)).setCell ⟨g, k, none⟩ (.slice (some ⟨w1.heap.size, 0, none⟩) 1 1)).alloc (.cells #[.int .i64 (-((k : Int) + 1) - 1), .int .i64 ((k : Int) + 1), .int .i64 ((k : Int) + 1 + 1)] 2)) ((w1.alloc (.cells #[.int .i64 ((k : Int) + 1 + 1)] 2)).setCell ⟨g, k, none⟩ (.slice (some ⟨w1.heap.size, 0, none⟩) 1 1)).heap.size (((w1.alloc (.cells #[.int .i64 ((k : Int) + 1 + 1)] 2)).setCell ⟨g, k, none⟩ (.slice (some ⟨w1.heap.size, 0, none⟩) 1 1)).alloc (.cells #[.int .i64 (-((k : Int) + 1) - 1), .int .i64 ((k : Int) + 1), .int .i64 ((k : Int) + 1 + 1)] 2)).heap.size (.slice (some ⟨z, 0, none⟩) 3 3) [-((k : Int) + 1) - 1, (k : Int) + 1, (k : Int) + 1 + 1] := fun z hz => by rw [hz]; exact ow_lit3 _ _ _ _
    obtain ⟨g2, c2, x2, hv2, hlo2, hhi2, q4, q5, hO5, hch2⟩ := OwS.set_ hO3 (k + 1) (by simp [hln]; omega) (hu2 (w1.heap.size + 1) (by simp [World.setCell])) (al1 _ _).size
    obtain ⟨rfl, rfl⟩ : g = g2 ∧ c = c2 := by injection hv2 with h1 _ h3; injection h1 with h1; injection h1 with h1; exact ⟨h1, h3⟩
    have HO5 := Lib.hid hO5
    have HCH := Lib.hid hch
    have HCH2 := Lib.hid hch2
    clear hO1 hO2 hO3 hu2 hO5 hch hch2 hv2
    obtain ⟨A, c0, e0, hl1, hm1, -⟩ := hO.sl fun b hb => hb.2
    rw [hln] at e0 hl1
    injection e0 with e0 _ e1
    subst e0 e1
    unfold maxLen at hm1
    have hk1 : (k : Int) < n := by omega
    have hk0 : (0 : Int) ≤ k := by omega
    go_wp2_with (go_at_call 102; refine (l03Abs_any _ _ (by omega) (by omega)).mono ?_; rintro e w' ⟨rfl, rfl⟩; rw [hk])
    go_ret
    refine ⟨_, rfl, ?_, ?_⟩
    · rw [HLR.out, HI1.out, HI2.out, ← two_sets_w w1 _ _ g k (k + 1) _ _ hhi]
      exact HO5.out
    · rw [← two_sets_w w1 _ _ g k (k + 1) _ _ hhi]
      exact set_below_ hlo ((set_below_ hlo (hb.trans ((al1 _ _).mono hb.size))).trans ((al1 _ _).mono (by simp [World.setCell]; have := hb.size; omega)))
end Go.Proofs.Ytcoocjdkppdlmaa
