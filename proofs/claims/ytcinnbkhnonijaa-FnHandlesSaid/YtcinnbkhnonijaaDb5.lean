/-
  Contracts: a word with a relation put in (l05Relation).
-/
import Derived.Test.YtcinnbkhnonijaaDb
namespace Go.Proofs.Ytcinnbkhnonijaa
set_option maxRecDepth 10000
open Go.RowKit

set_option maxHeartbeats 3200000 in
theorem l05Relation_any (s : Int) (v : Value) (xs : List Int) (lo hi k p K : Nat) (w : World) (h : Src w p K) (hK : K ≤ 999990000) (h2 : 2 ≤ s) (h12 : s ≤ 12) (hO : Ow w lo hi v xs) (hlo : p < lo) (hhi : hi ≤ w.heap.size) (hk : k ≤ xs.length) (hl : xs.length ≤ 1000) :
    Calls Try.prog 51 #[.pointer (some ⟨p, 0, none⟩), .int .i64 s, v, .int .i64 k] w fun e w' => ∃ (r : Value) (ys : List Int), e = .returned r ∧ Ow w' w.heap.size w'.heap.size r ys ∧ ys.length ≤ xs.length + 6 ∧ Src w' p (K + 10) ∧ Chg p (p + 1) w w' := by
  have hp := h.lt
  obtain ⟨A, c, rfl, hcl, hcm, -⟩ := id (hO.sl (Nat.le_refl _))
  have hkc : (k : Int) ≤ c := by omega
  have hkl : (k : Int) ≤ xs.length := by omega
  go_enter Try.func51, Try.ntmps51
  go_wp2_with fail
  refine (pick_any (s - 1) p K w h (by omega)).mono ?_
  rintro e w1 ⟨x, rfl, x0, x1, hs1, hc1⟩
  have hx9 : x ≤ 10 := by omega
  clear x1
  have hz1 := hc1.size
  have hP1 : Ow (w1.alloc (.cells #[.int .i64 (1 + x), .int .i64 (-(1 + x))] 2)) w1.heap.size (w1.alloc (.cells #[.int .i64 (1 + x), .int .i64 (-(1 + x))] 2)).heap.size (.slice (some ⟨w1.heap.size, 0, none⟩) 2 2) [1 + x, -(1 + x)] := ow_lits w1 [1 + x, -(1 + x)] (by simp)
  have ha1 := al1 w1 (.cells #[.int .i64 (1 + x), .int .i64 (-(1 + x))] 2)
  have hs2 := hs1.below ha1 (by omega)
  have hc2 := hc1.then_below (ha1.mono (by omega))
  have hz2 := ha1.size
  clear hs1 hc1
  by_cases hlt : 1 + x + 1 < s
  · go_wp2_with fail
    refine (one_any 2 p _ _ hs2 (by omega)).mono ?_
    rintro e w3 ⟨b3, rfl, hs3, hc3⟩
    have hz3 := hc3.size
    have hc3' := hc2.trans hc3
    have hP3 := hc3.ow_off hP1 (by omega) (Nat.le_refl _)
    cases b3
    · go_wp2_with fail
      obtain ⟨hsX, hcX, hPX, hPh⟩ := (⟨hs3, hc3', hP3, by omega⟩ : _ ∧ _ ∧ _ ∧ (w1.alloc (.cells #[.int .i64 (1 + x), .int .i64 (-(1 + x))] 2)).heap.size ≤ w3.heap.size)
      clear hs3 hc3' hP3 hc3 hs2 hc2 hP1 ha1
      refine (one_any 5 p _ _ hsX (by omega)).mono ?_
      rintro e w5 ⟨b5, rfl, hs5, hc5⟩
      have hzX := hcX.size
      have hP5 := hc5.ow_off hPX (by omega) hPh
      have hc5' := hcX.trans hc5
      have hz5 := hc5.size
      cases b5
      · obtain ⟨hsX, hcX, hPX, hPh⟩ := (⟨hs5, hc5', hP5, by omega⟩ : _ ∧ _ ∧ _ ∧ (w1.alloc (.cells #[.int .i64 (1 + x), .int .i64 (-(1 + x))] 2)).heap.size ≤ w5.heap.size)
        clear hs5 hc5' hP5 hc5
        have hO6 := (hcX.ow_off hO hlo hhi)
        have hzX := hcX.size
        go_wp2_with fail
        refine (l00Own_any _ (xs.take k) hi w5 ((hO6.slI.take hk).sl (Nat.le_refl _)) (by omega) (by simp; omega)).mono ?_
        rintro e w7 ⟨r7, rfl, hO7, hb7⟩
        have hz7 := hb7.size
        have hP7 := (hPX.below hb7 hPh).sl (Nat.le_refl _)
        go_wp2_with (first
          | (at_builtin; (refine wpList_append_list rfl _ _ rfl w7 _ _ _ r7 _ (xs.take k) [1 + x, -(1 + x)] rfl rfl hO7 hP7 hz7 (by simp; omega) ?_); intro v8 w8 hO8 hg8 _; have hbw := hO7.grown hg8 (Nat.le_refl _) hz7; have hz8 := Nat.le_trans hz7 hbw.size; have hD8 := sl_part (((hO6.below hb7 (by omega)).below hbw (by omega)).sl (Nat.le_refl _)) k xs.length hk (Nat.le_refl _))
          | (at_builtin; (refine wpList_append_list rfl _ _ rfl w8 _ _ _ v8 _ (xs.take k ++ [1 + x, -(1 + x)]) ((xs.drop k).take (xs.length - k)) rfl rfl hO8 hD8 hz8 (by simp; omega) ?_); intro v9 w9 hO9 hg9 _; have hbw2 := hO8.grown hg9 (Nat.le_refl _) hz8))
        all_goals
          go_ret
          refine ⟨_, rfl, _, hO9.mono (by omega) (Nat.le_refl _), by simp; omega, ((hsX.below hb7 (by omega)).below (hbw.trans hbw2) (by omega)).mono (by omega), (hcX.then_below (hb7.mono hzX)).then_below ((hbw.trans hbw2).mono hzX)⟩
      · have hn5 : Ow (w5.alloc (.cells #[.int .i64 (-(1 + x))] 2)) w5.heap.size (w5.alloc (.cells #[.int .i64 (-(1 + x))] 2)).heap.size (.slice (some ⟨w5.heap.size, 0, none⟩) 1 1) [-(1 + x)] := ow_lits w5 [-(1 + x)] (by simp)
        have ha5 := al1 w5 (.cells #[.int .i64 (-(1 + x))] 2)
        have hz6 := ha5.size
        obtain ⟨hsX, hcX, hPX, hPh⟩ := (⟨hs5.below ha5 (by omega), hc5'.then_below (ha5.mono (by omega)), hn5, Nat.le_refl _⟩ : _ ∧ _ ∧ _ ∧ (w5.alloc (.cells #[.int .i64 (-(1 + x))] 2)).heap.size ≤ (w5.alloc (.cells #[.int .i64 (-(1 + x))] 2)).heap.size)
        clear hs5 hc5' hP5 hc5 ha5
        have hO6 := (hcX.ow_off hO hlo hhi)
        have hzX := hcX.size
        go_wp2_with fail
        refine (l00Own_any _ (xs.take k) hi (w5.alloc (.cells #[.int .i64 (-(1 + x))] 2)) ((hO6.slI.take hk).sl (Nat.le_refl _)) (by omega) (by simp; omega)).mono ?_
        rintro e w7 ⟨r7, rfl, hO7, hb7⟩
        have hz7 := hb7.size
        have hP7 := (hPX.below hb7 hPh).sl (Nat.le_refl _)
        go_wp2_with (first
          | (at_builtin; (refine wpList_append_list rfl _ _ rfl w7 _ _ _ r7 _ (xs.take k) [-(1 + x)] rfl rfl hO7 hP7 hz7 (by simp; omega) ?_); intro v8 w8 hO8 hg8 _; have hbw := hO7.grown hg8 (Nat.le_refl _) hz7; have hz8 := Nat.le_trans hz7 hbw.size; have hD8 := sl_part (((hO6.below hb7 (by omega)).below hbw (by omega)).sl (Nat.le_refl _)) k xs.length hk (Nat.le_refl _))
          | (at_builtin; (refine wpList_append_list rfl _ _ rfl w8 _ _ _ v8 _ (xs.take k ++ [-(1 + x)]) ((xs.drop k).take (xs.length - k)) rfl rfl hO8 hD8 hz8 (by simp; omega) ?_); intro v9 w9 hO9 hg9 _; have hbw2 := hO8.grown hg9 (Nat.le_refl _) hz8))
        all_goals
          go_ret
          refine ⟨_, rfl, _, hO9.mono (by omega) (Nat.le_refl _), by simp; omega, ((hsX.below hb7 (by omega)).below (hbw.trans hbw2) (by omega)).mono (by omega), (hcX.then_below (hb7.mono hzX)).then_below ((hbw.trans hbw2).mono hzX)⟩
    · have hP4 : Ow (w3.alloc (.cells #[.int .i64 (1 + x), .int .i64 (1 + x + 1), .int .i64 (1 + x), .int .i64 (-(1 + x) - 1), .int .i64 (-(1 + x)), .int .i64 (-(1 + x) - 1)] 2)) w3.heap.size (w3.alloc (.cells #[.int .i64 (1 + x), .int .i64 (1 + x + 1), .int .i64 (1 + x), .int .i64 (-(1 + x) - 1), .int .i64 (-(1 + x)), .int .i64 (-(1 + x) - 1)] 2)).heap.size (.slice (some ⟨w3.heap.size, 0, none⟩) 6 6) [1 + x, 1 + x + 1, 1 + x, -(1 + x) - 1, -(1 + x), -(1 + x) - 1] := ow_lits w3 [1 + x, 1 + x + 1, 1 + x, -(1 + x) - 1, -(1 + x), -(1 + x) - 1] (by simp)
      have ha4 := al1 w3 (.cells #[.int .i64 (1 + x), .int .i64 (1 + x + 1), .int .i64 (1 + x), .int .i64 (-(1 + x) - 1), .int .i64 (-(1 + x)), .int .i64 (-(1 + x) - 1)] 2)
      have hz4 := ha4.size
      go_wp2_with fail
      obtain ⟨hsX, hcX, hPX, hPh⟩ := (⟨hs3.below ha4 (by omega), hc3'.then_below (ha4.mono (by omega)), hP4, Nat.le_refl _⟩ : _ ∧ _ ∧ _ ∧ (w3.alloc (.cells #[.int .i64 (1 + x), .int .i64 (1 + x + 1), .int .i64 (1 + x), .int .i64 (-(1 + x) - 1), .int .i64 (-(1 + x)), .int .i64 (-(1 + x) - 1)] 2)).heap.size ≤ (w3.alloc (.cells #[.int .i64 (1 + x), .int .i64 (1 + x + 1), .int .i64 (1 + x), .int .i64 (-(1 + x) - 1), .int .i64 (-(1 + x)), .int .i64 (-(1 + x) - 1)] 2)).heap.size)
      clear hs3 hc3' hP3 hc3 hs2 hc2 hP1 ha1 hP4 ha4
      refine (one_any 5 p _ _ hsX (by omega)).mono ?_
      rintro e w5 ⟨b5, rfl, hs5, hc5⟩
      have hzX := hcX.size
      have hP5 := hc5.ow_off hPX (by omega) hPh
      have hc5' := hcX.trans hc5
      have hz5 := hc5.size
      cases b5
      · obtain ⟨hsX, hcX, hPX, hPh⟩ := (⟨hs5, hc5', hP5, by omega⟩ : _ ∧ _ ∧ _ ∧ (w3.alloc (.cells #[.int .i64 (1 + x), .int .i64 (1 + x + 1), .int .i64 (1 + x), .int .i64 (-(1 + x) - 1), .int .i64 (-(1 + x)), .int .i64 (-(1 + x) - 1)] 2)).heap.size ≤ w5.heap.size)
        clear hs5 hc5' hP5 hc5
        have hO6 := (hcX.ow_off hO hlo hhi)
        have hzX := hcX.size
        go_wp2_with fail
        refine (l00Own_any _ (xs.take k) hi w5 ((hO6.slI.take hk).sl (Nat.le_refl _)) (by omega) (by simp; omega)).mono ?_
        rintro e w7 ⟨r7, rfl, hO7, hb7⟩
        have hz7 := hb7.size
        have hP7 := (hPX.below hb7 hPh).sl (Nat.le_refl _)
        go_wp2_with (first
          | (at_builtin; (refine wpList_append_list rfl _ _ rfl w7 _ _ _ r7 _ (xs.take k) [1 + x, 1 + x + 1, 1 + x, -(1 + x) - 1, -(1 + x), -(1 + x) - 1] rfl rfl hO7 hP7 hz7 (by simp; omega) ?_); intro v8 w8 hO8 hg8 _; have hbw := hO7.grown hg8 (Nat.le_refl _) hz7; have hz8 := Nat.le_trans hz7 hbw.size; have hD8 := sl_part (((hO6.below hb7 (by omega)).below hbw (by omega)).sl (Nat.le_refl _)) k xs.length hk (Nat.le_refl _))
          | (at_builtin; (refine wpList_append_list rfl _ _ rfl w8 _ _ _ v8 _ (xs.take k ++ [1 + x, 1 + x + 1, 1 + x, -(1 + x) - 1, -(1 + x), -(1 + x) - 1]) ((xs.drop k).take (xs.length - k)) rfl rfl hO8 hD8 hz8 (by simp; omega) ?_); intro v9 w9 hO9 hg9 _; have hbw2 := hO8.grown hg9 (Nat.le_refl _) hz8))
        all_goals
          go_ret
          refine ⟨_, rfl, _, hO9.mono (by omega) (Nat.le_refl _), by simp; omega, ((hsX.below hb7 (by omega)).below (hbw.trans hbw2) (by omega)).mono (by omega), (hcX.then_below (hb7.mono hzX)).then_below ((hbw.trans hbw2).mono hzX)⟩
      · have hn5 : Ow (w5.alloc (.cells #[.int .i64 (-(1 + x))] 2)) w5.heap.size (w5.alloc (.cells #[.int .i64 (-(1 + x))] 2)).heap.size (.slice (some ⟨w5.heap.size, 0, none⟩) 1 1) [-(1 + x)] := ow_lits w5 [-(1 + x)] (by simp)
        have ha5 := al1 w5 (.cells #[.int .i64 (-(1 + x))] 2)
        have hz6 := ha5.size
        obtain ⟨hsX, hcX, hPX, hPh⟩ := (⟨hs5.below ha5 (by omega), hc5'.then_below (ha5.mono (by omega)), hn5, Nat.le_refl _⟩ : _ ∧ _ ∧ _ ∧ (w5.alloc (.cells #[.int .i64 (-(1 + x))] 2)).heap.size ≤ (w5.alloc (.cells #[.int .i64 (-(1 + x))] 2)).heap.size)
        clear hs5 hc5' hP5 hc5 ha5
        have hO6 := (hcX.ow_off hO hlo hhi)
        have hzX := hcX.size
        go_wp2_with fail
        refine (l00Own_any _ (xs.take k) hi (w5.alloc (.cells #[.int .i64 (-(1 + x))] 2)) ((hO6.slI.take hk).sl (Nat.le_refl _)) (by omega) (by simp; omega)).mono ?_
        rintro e w7 ⟨r7, rfl, hO7, hb7⟩
        have hz7 := hb7.size
        have hP7 := (hPX.below hb7 hPh).sl (Nat.le_refl _)
        go_wp2_with (first
          | (at_builtin; (refine wpList_append_list rfl _ _ rfl w7 _ _ _ r7 _ (xs.take k) [-(1 + x)] rfl rfl hO7 hP7 hz7 (by simp; omega) ?_); intro v8 w8 hO8 hg8 _; have hbw := hO7.grown hg8 (Nat.le_refl _) hz7; have hz8 := Nat.le_trans hz7 hbw.size; have hD8 := sl_part (((hO6.below hb7 (by omega)).below hbw (by omega)).sl (Nat.le_refl _)) k xs.length hk (Nat.le_refl _))
          | (at_builtin; (refine wpList_append_list rfl _ _ rfl w8 _ _ _ v8 _ (xs.take k ++ [-(1 + x)]) ((xs.drop k).take (xs.length - k)) rfl rfl hO8 hD8 hz8 (by simp; omega) ?_); intro v9 w9 hO9 hg9 _; have hbw2 := hO8.grown hg9 (Nat.le_refl _) hz8))
        all_goals
          go_ret
          refine ⟨_, rfl, _, hO9.mono (by omega) (Nat.le_refl _), by simp; omega, ((hsX.below hb7 (by omega)).below (hbw.trans hbw2) (by omega)).mono (by omega), (hcX.then_below (hb7.mono hzX)).then_below ((hbw.trans hbw2).mono hzX)⟩
  · go_wp2_with fail
    obtain ⟨hsX, hcX, hPX, hPh⟩ := (⟨hs2, hc2, hP1, Nat.le_refl _⟩ : _ ∧ _ ∧ _ ∧ (w1.alloc (.cells #[.int .i64 (1 + x), .int .i64 (-(1 + x))] 2)).heap.size ≤ (w1.alloc (.cells #[.int .i64 (1 + x), .int .i64 (-(1 + x))] 2)).heap.size)
    clear hs2 hc2 hP1 ha1
    refine (one_any 5 p _ _ hsX (by omega)).mono ?_
    rintro e w5 ⟨b5, rfl, hs5, hc5⟩
    have hzX := hcX.size
    have hP5 := hc5.ow_off hPX (by omega) hPh
    have hc5' := hcX.trans hc5
    have hz5 := hc5.size
    cases b5
    · obtain ⟨hsX, hcX, hPX, hPh⟩ := (⟨hs5, hc5', hP5, by omega⟩ : _ ∧ _ ∧ _ ∧ (w1.alloc (.cells #[.int .i64 (1 + x), .int .i64 (-(1 + x))] 2)).heap.size ≤ w5.heap.size)
      clear hs5 hc5' hP5 hc5
      have hO6 := (hcX.ow_off hO hlo hhi)
      have hzX := hcX.size
      go_wp2_with fail
      refine (l00Own_any _ (xs.take k) hi w5 ((hO6.slI.take hk).sl (Nat.le_refl _)) (by omega) (by simp; omega)).mono ?_
      rintro e w7 ⟨r7, rfl, hO7, hb7⟩
      have hz7 := hb7.size
      have hP7 := (hPX.below hb7 hPh).sl (Nat.le_refl _)
      go_wp2_with (first
        | (at_builtin; (refine wpList_append_list rfl _ _ rfl w7 _ _ _ r7 _ (xs.take k) [1 + x, -(1 + x)] rfl rfl hO7 hP7 hz7 (by simp; omega) ?_); intro v8 w8 hO8 hg8 _; have hbw := hO7.grown hg8 (Nat.le_refl _) hz7; have hz8 := Nat.le_trans hz7 hbw.size; have hD8 := sl_part (((hO6.below hb7 (by omega)).below hbw (by omega)).sl (Nat.le_refl _)) k xs.length hk (Nat.le_refl _))
        | (at_builtin; (refine wpList_append_list rfl _ _ rfl w8 _ _ _ v8 _ (xs.take k ++ [1 + x, -(1 + x)]) ((xs.drop k).take (xs.length - k)) rfl rfl hO8 hD8 hz8 (by simp; omega) ?_); intro v9 w9 hO9 hg9 _; have hbw2 := hO8.grown hg9 (Nat.le_refl _) hz8))
      all_goals
        go_ret
        refine ⟨_, rfl, _, hO9.mono (by omega) (Nat.le_refl _), by simp; omega, ((hsX.below hb7 (by omega)).below (hbw.trans hbw2) (by omega)).mono (by omega), (hcX.then_below (hb7.mono hzX)).then_below ((hbw.trans hbw2).mono hzX)⟩
    · have hn5 : Ow (w5.alloc (.cells #[.int .i64 (-(1 + x))] 2)) w5.heap.size (w5.alloc (.cells #[.int .i64 (-(1 + x))] 2)).heap.size (.slice (some ⟨w5.heap.size, 0, none⟩) 1 1) [-(1 + x)] := ow_lits w5 [-(1 + x)] (by simp)
      have ha5 := al1 w5 (.cells #[.int .i64 (-(1 + x))] 2)
      have hz6 := ha5.size
      obtain ⟨hsX, hcX, hPX, hPh⟩ := (⟨hs5.below ha5 (by omega), hc5'.then_below (ha5.mono (by omega)), hn5, Nat.le_refl _⟩ : _ ∧ _ ∧ _ ∧ (w5.alloc (.cells #[.int .i64 (-(1 + x))] 2)).heap.size ≤ (w5.alloc (.cells #[.int .i64 (-(1 + x))] 2)).heap.size)
      clear hs5 hc5' hP5 hc5 ha5
      have hO6 := (hcX.ow_off hO hlo hhi)
      have hzX := hcX.size
      go_wp2_with fail
      refine (l00Own_any _ (xs.take k) hi (w5.alloc (.cells #[.int .i64 (-(1 + x))] 2)) ((hO6.slI.take hk).sl (Nat.le_refl _)) (by omega) (by simp; omega)).mono ?_
      rintro e w7 ⟨r7, rfl, hO7, hb7⟩
      have hz7 := hb7.size
      have hP7 := (hPX.below hb7 hPh).sl (Nat.le_refl _)
      go_wp2_with (first
        | (at_builtin; (refine wpList_append_list rfl _ _ rfl w7 _ _ _ r7 _ (xs.take k) [-(1 + x)] rfl rfl hO7 hP7 hz7 (by simp; omega) ?_); intro v8 w8 hO8 hg8 _; have hbw := hO7.grown hg8 (Nat.le_refl _) hz7; have hz8 := Nat.le_trans hz7 hbw.size; have hD8 := sl_part (((hO6.below hb7 (by omega)).below hbw (by omega)).sl (Nat.le_refl _)) k xs.length hk (Nat.le_refl _))
        | (at_builtin; (refine wpList_append_list rfl _ _ rfl w8 _ _ _ v8 _ (xs.take k ++ [-(1 + x)]) ((xs.drop k).take (xs.length - k)) rfl rfl hO8 hD8 hz8 (by simp; omega) ?_); intro v9 w9 hO9 hg9 _; have hbw2 := hO8.grown hg9 (Nat.le_refl _) hz8))
      all_goals
        go_ret
        refine ⟨_, rfl, _, hO9.mono (by omega) (Nat.le_refl _), by simp; omega, ((hsX.below hb7 (by omega)).below (hbw.trans hbw2) (by omega)).mono (by omega), (hcX.then_below (hb7.mono hzX)).then_below ((hbw.trans hbw2).mono hzX)⟩
end Go.Proofs.Ytcinnbkhnonijaa
