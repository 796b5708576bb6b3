/-
  Contracts: the words and the arguments that the reference draws for free words (l05Bent, DrawFreeJoin).
-/
import Derived.Test.YtcoocjdkppdlmaaDr
import Derived.Test.YtcoocjdkppdlmaaInv
import Derived.Test.YtcoocjdkppdlmaaSt
namespace Go.Proofs.Ytcoocjdkppdlmaa
set_option maxRecDepth 10000
open Go.RowKit

theorem ow_lits (w : World) (xs : List Int) (h : xs.length ≤ 1000000) : Ow (w.alloc (.cells (vals xs).toArray 2)) w.heap.size (w.alloc (.cells (vals xs).toArray 2)).heap.size (.slice (some ⟨w.heap.size, 0, none⟩) xs.length xs.length) xs :=
  ⟨⟨by simp [vals], .inr ⟨w.heap.size, xs.length, (vals xs).toArray, rfl, Nat.le_refl _, alloc_at_ _ _, Nat.le_refl _, by simp [maxLen]; omega, by simp [vals], by rw [List.take_of_length_le (by simp [vals])]⟩⟩, fun g hg => by simp [Value.ownBlock] at hg; subst hg; rw [World.size_alloc]; exact Nat.lt_succ_self _⟩
theorem among_ow {v : Value} {xs : List Int} {p K lo hi : Nat} {w : World} (h : Src w p K) (hK : K ≤ 999999000) (hO : Ow w lo hi v xs) (hx : 0 < xs.length) (hp : p < lo) (hs : hi ≤ w.heap.size) :
    Calls Try.prog 94 #[.pointer (some ⟨p, 0, none⟩), v] w fun e w' => ∃ x : Int, e = .returned (.int .i64 x) ∧ x ∈ xs ∧ Src w' p (K + 2) ∧ Chg p (p + 1) w w' :=
  among_any v xs hi p K w h hK (hO.sl (Nat.le_refl _)) hx fun _ hc => (hc.ow_off hO hp hs).sl (Nat.le_refl _)
theorem chg_fresh {p : Nat} {w wa wb : World} (ha : Below w.heap.size w wa) (hc : Chg p (p + 1) wa wb) : Chg p (p + 1) w wb :=
  ⟨hc.os.trans ha.os, hc.tape.trans ha.tape, hc.output.trans ha.output, Nat.le_trans ha.size hc.size, fun j hj hd => (hc.block j (Nat.lt_of_lt_of_le hj ha.size) hd).trans (ha.block j hj)⟩
set_option maxHeartbeats 3200000 in
theorem l05Bent_any (p K : Nat) (w : World) (h : Src w p K) (hK : K ≤ 999980000) :
    Calls Try.prog 68 #[.pointer (some ⟨p, 0, none⟩)] w fun e w' => ∃ (n : Int) (r : Value) (xs : List Int), e = .returned (.tuple #[.int .i64 n, r]) ∧ Ow w' w.heap.size w'.heap.size r xs ∧ xs.length ≤ 19 ∧ n ≤ 13 ∧ Src w' p (K + 110) ∧ Chg p (p + 1) w w' := by
  have hp := h.lt
  have hO := ow_lits w [2, 3, 3, 4, 1, 0, 12] (by simp)
  have ha := al1 w (.cells (vals [2, 3, 3, 4, 1, 0, 12]).toArray 2)
  have hs0 := h.below ha hp
  go_enter Try.func68, Try.ntmps68
  go_wp2_with fail
  refine (among_ow hs0 (by omega) hO (by simp) hp (Nat.le_refl _)).mono ?_
  rintro e w1 ⟨n, rfl, hn, hs1, hc1⟩
  have hn2 : 0 ≤ n ∧ n ≤ 12 := by simp at hn; omega
  have hc1 := chg_fresh ha hc1
  clear hn hO ha hs0
  obtain ⟨n0, n1⟩ := hn2
  go_wp2_with fail
  refine (l05DrawWord_any n p _ _ hs1 (by omega) (by omega)).mono ?_
  rintro e w2 ⟨r, xs, rfl, hO2, hl2, -, hs2, hc2⟩
  have hO2 := hO2.mono hc1.size (Nat.le_refl _)
  have hc2 := hc1.trans hc2
  clear hs1 hc1
  go_wp2_with fail
  refine (pick_any 16 p _ _ hs2 (by omega)).mono ?_
  rintro e w3 ⟨k, rfl, k0, k1, hs3, hc3⟩
  have hO3 := (hc3.ow_off hO2 hp (Nat.le_refl _)).mono (Nat.le_refl _) hc3.size
  have hc3 := hc2.trans hc3
  clear hs2 hc2 hO2 k1
  by_cases hk0 : k = 0
  · subst hk0
    have hO4 := ow_lits w3 [0, n + 1, -n - 1, -9223372036854775808] (by simp)
    have ha4 := al1 w3 (.cells (vals [0, n + 1, -n - 1, -9223372036854775808]).toArray 2)
    have hs4 := hs3.below ha4 (Nat.lt_of_lt_of_le hp hc3.size)
    go_wp2_with fail
    refine (among_ow hs4 (by omega) hO4 (by simp) (Nat.lt_of_lt_of_le hp hc3.size) (Nat.le_refl _)).mono ?_
    rintro e w5 ⟨y, rfl, -, hs5, hc5⟩
    have hc5 := chg_fresh ha4 hc5
    have hO5 := (hc5.ow_off hO3 hp (Nat.le_refl _)).mono (Nat.le_refl _) hc5.size
    have hc6 := hc3.trans hc5
    clear hO4 ha4 hs4 hO3 hs3 hc5
    go_wp2_with (at_builtin; refine wpList_append_one rfl _ _ rfl _ _ _ _ _ y rfl rfl hO5 hc6.size (by omega) ?_; intro v7 w7 hO7 hg7 _)
    have hb7 := hO5.grown hg7 (Nat.le_refl _) hc6.size
    go_ret2
    exact ⟨_, _, _, rfl, hO7, by simp; omega, by omega, (hs5.below hb7 hp).mono (by omega), hc6.then_below hb7⟩
  · have hk0b : (k == 0) = false := by simp [hk0]
    by_cases hk1 : k = 1
    · subst hk1
      have hO4 := ow_lits w3 [-1, 13] (by simp)
      have ha4 := al1 w3 (.cells (vals [-1, 13]).toArray 2)
      have hs4 := hs3.below ha4 (Nat.lt_of_lt_of_le hp hc3.size)
      go_wp2_with fail
      refine (among_ow hs4 (by omega) hO4 (by simp) (Nat.lt_of_lt_of_le hp hc3.size) (Nat.le_refl _)).mono ?_
      rintro e w5 ⟨y, rfl, hy, hs5, hc5⟩
      have hy2 : y ≤ 13 := by simp at hy; omega
      have hc5 := chg_fresh ha4 hc5
      have hO5 := (hc5.ow_off hO3 hp (Nat.le_refl _)).mono (Nat.le_refl _) hc5.size
      have hc6 := hc3.trans hc5
      clear hO4 ha4 hs4 hO3 hs3 hc5 hy
      go_wp2_with fail
      go_ret2
      exact ⟨_, _, _, rfl, hO5, by omega, hy2, hs5.mono (by omega), hc6⟩
    · have hk1b : (k == 1) = false := by simp [hk1]
      go_wp2_with fail
      go_ret2
      exact ⟨_, _, _, rfl, hO3, by omega, by omega, hs3.mono (by omega), hc3⟩
set_option maxHeartbeats 1600000 in
theorem l03Inverse_some (v : Value) (xs : List Int) (B : Nat) (w : World) (h : Sl w B v xs) (hB : B ≤ w.heap.size) (hsz : xs.length ≤ 1000000) :
    Calls Try.prog 70 #[v] w fun e w' => ∃ r ys, e = .returned r ∧ Ow w' w.heap.size w'.heap.size r ys ∧ ys.length = xs.length ∧ Below w.heap.size w w' := by
  obtain ⟨A, c, rfl, hl, hm, _, hcells⟩ := h
  unfold maxLen at hm
  have HC := Lib.hid hcells
  clear hcells
  have hO := Ow.empty w
  have hb1 := al1 w (.cells #[] 2)
  go_enter Try.func70, Try.ntmps70
  go_wp2
  go_loopw [3, 4] (fun o i wr => ∃ (k : Nat) (ys : List Int), k ≤ xs.length ∧ i = .int .i64 (k - 1) ∧ Ow wr w.heap.size wr.heap.size o ys ∧ ys.length + k = xs.length ∧ Below w.heap.size w wr) (fun _ i _ => (intOf i + 1).toNat)
  case atStart => exact ⟨xs.length, [], Nat.le_refl _, rfl, hO, by simp, hb1⟩
  case round =>
    obtain ⟨k, ys, hk, rfl, hO, hyl, hb⟩ := hrel
    rcases Nat.eq_zero_or_pos k with rfl | hp
    · go_wp2
      go_ret
      exact ⟨_, ys, rfl, hO, hyl, hb⟩
    · obtain ⟨j, rfl⟩ : ∃ j, k = j + 1 := ⟨k - 1, by omega⟩
      rw [show (((j + 1 : Nat) : Int) - 1) = (j : Int) by omega]
      have hlt : j < xs.length := by omega
      obtain ⟨b, off, rfl, hbB, hcell⟩ := HC.out (by omega)
      have q1 : wr.cell? ⟨b, off + j, none⟩ = some (.int .i64 (gi xs j)) := by rw [hb.cell (by simp only; omega)]; exact hcell j hlt
      generalize gi xs j = X at *
      have hsz2 := hb.size
      clear hcell
      go_wp2_with (at_builtin; refine wpList_append_one rfl _ _ rfl _ _ _ _ _ _ rfl rfl hO hsz2 (by omega) ?_; intro v1 w2 hO2 hg2 _)
      have hbw := hO.grown hg2 (Nat.le_refl _) hsz2
      go_roundw
      case rel => exact ⟨j, _, by omega, by go_num, hO2, by simp; omega, hb.trans hbw⟩
      case measure => simp [intOf]
set_option maxHeartbeats 1600000 in
theorem DrawFreeJoin_any (v : Value) (bs : List Int) (w : World) (h : SlB w w.heap.size v bs) :
    Calls Try.prog 34 #[v] w fun e w' => ∃ (n : Int) (r0 : Value) (xs : List Int) (r1 : Value) (ys : List Int), e = .returned (.tuple #[.int .i64 n, r0, r1]) ∧ Sl w' w'.heap.size r0 xs ∧ Sl w' w'.heap.size r1 ys ∧ xs.length ≤ 19 ∧ ys.length ≤ 19 ∧ Below w.heap.size w w' := by
  go_enter Try.func34, Try.ntmps34
  go_wp2_with fail
  refine (l00From_any v bs w h).mono ?_
  rintro e w1 ⟨rfl, hs1, hb1⟩
  go_wp2_with fail
  refine (l05Bent_any w.heap.size 0 _ hs1 (by omega)).mono ?_
  rintro e w2 ⟨n, r0, xs, rfl, hO2, hl2, hn, hs2, hc2⟩
  have hp2 := hs1.lt
  have hb2 := hb1.trans (hc2.below (Nat.le_refl _) hb1.size)
  clear hs1
  go_wp2_with fail
  refine (one_any 2 _ _ _ hs2 (by omega)).mono ?_
  rintro e w3 ⟨b, rfl, hs3, hc3⟩
  have hO3 := (hc3.ow_off hO2 hp2 (Nat.le_refl _)).mono (Nat.le_refl _) hc3.size
  have hb3 := hb2.trans (hc3.below (Nat.le_refl _) hb2.size)
  have hz3 : w.heap.size < w3.heap.size := hs3.lt
  clear hO2 hs2
  cases b
  · go_wp2_with (first | (go_at_call 73; refine (l00Min_any _ _ _).mono ?_; rintro e w4 ⟨rfl, rfl⟩) | (go_at_call 72; refine (l00Max_any _ _ _).mono ?_; rintro e w4 ⟨rfl, rfl⟩))
    all_goals
      refine (l05DrawWord_any _ _ _ _ hs3 (by omega) (by omega)).mono ?_
      rintro e w5 ⟨r1, ys, rfl, hO5, hl5, -, hs5, hc5⟩
      go_wp2_with fail
      go_ret3
      exact ⟨n, r0, xs, r1, ys, rfl, ((hc5.ow_off hO3 hp2 (Nat.le_refl _)).mono (Nat.le_refl _) hc5.size).sl (Nat.le_refl _), hO5.sl (Nat.le_refl _), hl2, by omega, hb3.trans (hc5.below (Nat.le_refl _) hb3.size)⟩
  · go_wp2_with fail
    refine (l03Inverse_some _ xs _ _ (hO3.sl (Nat.le_refl _)) (Nat.le_refl _) (by omega)).mono ?_
    rintro e w5 ⟨r1, ys, rfl, hO5, hl5, hb5⟩
    go_wp2_with fail
    go_ret3
    exact ⟨n, r0, xs, r1, ys, rfl, ((hO3.below hb5 (Nat.le_refl _)).sl hb5.size), hO5.sl (Nat.le_refl _), hl2, by omega, hb3.trans (hb5.mono hb3.size)⟩
end Go.Proofs.Ytcoocjdkppdlmaa
