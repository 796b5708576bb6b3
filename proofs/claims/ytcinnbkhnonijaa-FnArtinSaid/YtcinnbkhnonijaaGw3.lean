/-
  Contracts: the reference's normal form of a word and equality of braids (l04Normal, l04Equal, EqualBraids, IsTrivial).
-/
import Derived.Test.YtcinnbkhnonijaaGw2
import Derived.Test.YtcinnbkhnonijaaBrOk
import Derived.Test.YtcinnbkhnonijaaHand2
namespace Go.Proofs.Ytcinnbkhnonijaa
set_option maxRecDepth 10000
open Go.RowKit

theorem lst_snoc {n : Int} {xs : List Int} {k : Nat} (h : k < xs.length) : lst n (xs.take (k + 1)) = step n (lst n (xs.take k)) (gi xs k) := by
  rw [take_gi h, lst, run_append]; rfl
theorem step_pos {n x : Int} (s : Nat × List Pm) (h0 : 0 < x) (h1 : x < n) : step n s x = (s.1, s.2 ++ [sig x]) := by unfold step; rw [if_pos ⟨h0, h1⟩]
theorem step_neg {n x : Int} (s : Nat × List Pm) (h0 : x < 0) (h1 : -n < x) : step n s x = (s.1 + 1, s.2.map (pFlip n) ++ [beh (pHalf n) (-x)]) := by unfold step; rw [if_neg (by omega), if_pos ⟨h0, h1⟩]
theorem lst_len (n : Int) (w : List Int) : (lst n w).2.length ≤ w.length ∧ (lst n w).1 ≤ w.length := by
  rcases nil_or_snoc w with rfl | ⟨l, x, rfl⟩
  · exact ⟨Nat.le_refl _, Nat.le_refl _⟩
  · have hlt : l.length < (l ++ [x]).length := by simp
    have ih := lst_len n l
    have e : lst n (l ++ [x]) = step n (lst n l) x := by unfold lst; rw [run_append]; rfl
    rw [e]
    unfold step
    split
    · simp; omega
    · split
      · simp; omega
      · simp; omega
termination_by w.length
theorem box3 {w : World} {g : Nat} {a b c : Value} {t : TypeId} (h : w.heap[g]? = some (.cells #[a, b, c] t)) :
    w.cell? ⟨g, 0, none⟩ = some a ∧ w.cell? ⟨g, 1, none⟩ = some b ∧ w.cell? ⟨g, 2, none⟩ = some c ∧ (∀ k, w.frozen? ⟨g, k, none⟩ = false) ∧ g < w.heap.size :=
  ⟨cell_of_row w g 0 _ t (0, 0) h, cell_of_row w g 1 _ t (0, 0) h, cell_of_row w g 2 _ t (0, 0) h, fun k => by simp only [World.frozen?, h]; simp, heap_lt h⟩
theorem below_heap {B : Nat} {w w' : World} {g : Nat} {o : Obj} (hb : Below B w w') (hg : g < B) (h : w.heap[g]? = some o) : w'.heap[g]? = some o := (hb.block g hg).trans h
/-- Three stores into a result of three cells. -/
theorem three_sets_ (w : World) (g : Nat) {u0 u1 u2 : Value} (x y z : Value) (h0 : w.cell? ⟨g, 0, none⟩ = some u0) (h1 : w.cell? ⟨g, 1, none⟩ = some u1) (h2 : w.cell? ⟨g, 2, none⟩ = some u2) :
    (w.setCell ⟨g, 0, none⟩ x).cell? ⟨g, 0, none⟩ = some x ∧ ((w.setCell ⟨g, 0, none⟩ x).setCell ⟨g, 1, none⟩ y).cell? ⟨g, 1, none⟩ = some y ∧ (((w.setCell ⟨g, 0, none⟩ x).setCell ⟨g, 1, none⟩ y).setCell ⟨g, 2, none⟩ z).cell? ⟨g, 2, none⟩ = some z := by
  refine ⟨World.cell?_setCell_same _ _ _ h0, World.cell?_setCell_same _ _ _ (u := u1) ?_, World.cell?_setCell_same _ _ _ (u := u2) ?_⟩
  · rw [World.cell?_setCell_other _ _ _ _ (by simp)]; exact h1
  · rw [World.cell?_setCell_other _ _ _ _ (by simp), World.cell?_setCell_other _ _ _ _ (by simp)]; exact h2
set_option maxHeartbeats 6400000 in
set_option maxRecDepth 100000 in
theorem l04Normal_any (v : Value) (n : Nat) (xs : List Int) (B : Nat) (w : World) (h : Sl w B v xs) (hB : B ≤ w.heap.size) (hn : n ≤ 12) (hx : In n xs) (hsz : xs.length ≤ 1000) :
    Calls Try.prog 57 #[.int .i64 n, v] w fun e w' => ∃ N A c, e = .returned (.agg #[.int .i64 n, .int .i64 (-((lst n xs).1 : Int) + (hcN n N : Nat)), .slice A (rcN n N) c]) ∧ Mvs n (lst n xs).2 N ∧ Irr n N ∧ Below w.heap.size w w' := by
  obtain ⟨A, c, rfl, hl, hm, -, hcells⟩ := id h
  unfold maxLen at hm
  have HC := Lib.hid hcells
  have HX := Lib.hid hx
  have nI : (n : Int) ≤ 12 := by omega
  clear hcells hx
  obtain ⟨W1, hW1⟩ : ∃ W1, W1 = (w.alloc (.cells #[.int .i64 0, .int .i64 0, .slice none 0 0] 89)).alloc (.cells #[.int .i64 n, .int .i64 0, .slice none 0 0] 89) := ⟨_, rfl⟩
  have hsz1 : W1.heap.size = w.heap.size + 1 + 1 := by rw [hW1]; simp
  have hE : OwS (W1.alloc (.cells #[] 24)) (Iv (w.heap.size + 1 + 1) (W1.alloc (.cells #[] 24)).heap.size) (.slice (some ⟨w.heap.size + 1 + 1, 0, none⟩) 0 0) (rowsP n (lst n (xs.take 0)).2) := by have := OwS.empty W1; rw [hsz1] at this; exact this
  have hbw : Below w.heap.size w (W1.alloc (.cells #[] 24)) := by
    have h1 : Below w.heap.size w W1 := by rw [hW1]; exact al2 _ _ _
    exact h1.trans ((al1 W1 _).mono (by omega))
  have hx1 : (W1.alloc (.cells #[] 24)).heap[w.heap.size]? = some (.cells #[.int .i64 0, .int .i64 0, .slice none 0 0] 89) := by
    rw [Below.heap_alloc _ _ _ (by omega), hW1, Below.heap_alloc _ _ _ (by simp), alloc_at_]
  have hx2 : (W1.alloc (.cells #[] 24)).heap[w.heap.size + 1]? = some (.cells #[.int .i64 n, .int .i64 (-((lst n (xs.take 0)).1 : Int)), .slice none 0 0] 89) := by
    rw [Below.heap_alloc _ _ _ (by omega), hW1]
    have := alloc_at_ (w.alloc (.cells #[.int .i64 0, .int .i64 0, .slice none 0 0] 89)) (.cells #[.int .i64 n, .int .i64 0, .slice none 0 0] 89)
    rw [World.size_alloc] at this
    exact this
  have hsz2 : w.heap.size + 3 ≤ (W1.alloc (.cells #[] 24)).heap.size := by rw [World.size_alloc]; omega
  go_enter Try.func57, Try.ntmps57
  go_wp2_with fail
  rw [← hW1]
  go_loopw [6, 7] (fun o i wr => ∃ k : Nat, k ≤ xs.length ∧ i = .int .i64 k ∧ OwS wr (Iv (w.heap.size + 1 + 1) wr.heap.size) o (rowsP n (lst n (xs.take k)).2) ∧ Hid (wr.heap[w.heap.size]? = some (.cells #[.int .i64 0, .int .i64 0, .slice none 0 0] 89)) ∧ Hid (wr.heap[w.heap.size + 1]? = some (.cells #[.int .i64 n, .int .i64 (-((lst n (xs.take k)).1 : Int)), .slice none 0 0] 89)) ∧ Below w.heap.size w wr ∧ w.heap.size + 3 ≤ wr.heap.size) (fun _ i _ => xs.length - (intOf i).toNat)
  case atStart => exact ⟨0, Nat.zero_le _, rfl, hE, Lib.hid hx1, Lib.hid hx2, hbw, hsz2⟩
  case round =>
    obtain ⟨k, hk, rfl, hO, HX1, HX2, hb2, hz2⟩ := hrel
    obtain ⟨wk, hwk⟩ : ∃ x, x = wr := ⟨_, rfl⟩
    subst hwk
    clear hE hx1 hx2 hbw hsz2 hsz1 hW1
    obtain ⟨q0, q1, q2, qf, qg⟩ := box3 HX2.out
    obtain ⟨r0, r1, r2, rf, rg⟩ := box3 HX1.out
    have hll := lst_len n (xs.take k)
    have hlt2 : (xs.take k).length ≤ 1000 := by simp; omega
    have HSP := Lib.hid (lst_sups (n : Int) (xs.take k))
    by_cases hlt : k < xs.length
    · obtain ⟨b, off, rfl, hbB, hcell⟩ := HC.out (by omega)
      have q3 : wk.cell? ⟨b, off + k, none⟩ = some (.int .i64 (gi xs k)) := by rw [hb2.cell (by simp only; omega)]; exact hcell k hlt
      obtain ⟨x0, x1, x2⟩ := HX.out _ (gi_mem hlt)
      have hL := lst_snoc (n := n) hlt
      generalize gi xs k = X at *
      generalize lst n (xs.take k) = s at *
      obtain ⟨m, L⟩ := s
      simp only [] at hll HSP q1 hO HX2
      have HL := Lib.hid hL
      have hrl := rowsP_len n L
      have m0 : (0 : Int) ≤ m := by omega
      have m1 : (m : Int) ≤ 1000 := by omega
      clear hcell hL
      by_cases hp : 0 < X
      · have hab : ab X = X := by unfold ab; omega
        have HS := Lib.hid (HL.out.trans (step_pos (n := n) (m, L) hp (show X < (n : Int) by omega)))
        have hX12 : X < (n : Int) := by omega
        have x3 : X ≤ 1000 := by omega
        have x4 : -1000 ≤ X := by omega
        clear q0 q1 q2 qf r0 r1 r2 rf
        go_wp2_with (go_at_call 61; refine (l03Abs_any _ _ x4 x3).mono ?_; rintro e w' ⟨rfl, rfl⟩; rw [hab])
        refine (l04Identity_any n _ (by omega)).mono ?_
        rintro e w5 ⟨r5, rfl, ho5, hb5⟩
        obtain ⟨A5, c5, rfl, -⟩ := id (ho5.sl (Nat.le_refl _))
        go_wp2_with fail
        refine (l04Behind_any _ n pOne X _ _ (ho5.sl (Nat.le_refl _)) (Nat.le_refl _) (by omega) hp hX12).mono ?_
        rintro e w6 ⟨r6, rfl, ho6, hb6⟩
        obtain ⟨A6, c6, rfl, -⟩ := id (ho6.sl (Nat.le_refl _))
        have hb56 := hb5.trans (hb6.mono hb5.size)
        have hO6 := hO.below hb56 (Nat.le_refl _)
        have ho6' := ho6.mono hb5.size (Nat.le_refl _)
        have hs56 := hb56.size
        have hwk2 : w.heap.size + 1 + 1 ≤ wk.heap.size := by omega
        go_wp2_with (at_builtin; refine wpList_append_row rfl _ _ rfl w6 (w.heap.size + 1 + 1) wk.heap.size u6 _ (rowsP n L) (toL n (beh pOne X)) rfl rfl hO6 ho6' hwk2 hs56 (by omega) ?_; intro v1 w7 hO7 hb7)
        have e7 : rowsP n L ++ [toL n (beh pOne X)] = rowsP n (L ++ [sig X]) := (rowsP_snoc n L (sig X)).symm
        rw [e7] at hO7
        have hz6 : w.heap.size + 1 + 1 ≤ w6.heap.size := by omega
        go_roundw
        case rel => exact ⟨k + 1, by omega, by go_num, by rw [HS.out]; exact hO7, Lib.hid (below_heap hb7 (by omega) (below_heap hb56 (by omega) HX1.out)), Lib.hid (by rw [HS.out]; exact below_heap hb7 (by omega) (below_heap hb56 (by omega) HX2.out)), (hb2.trans (hb56.mono (by omega))).trans (hb7.mono (by omega)), by have := hb7.size; omega⟩
        case measure => simp [intOf]; omega
      · obtain ⟨Y, rfl⟩ : ∃ Y, X = -Y := ⟨-X, by omega⟩
        have hab : ab (-Y) = Y := by unfold ab; omega
        have hY0 : 0 < Y := by omega
        have hYn : Y < (n : Int) := by omega
        have HS0 := HL.out.trans (step_neg (n := n) (m, L) (show -Y < 0 by omega) (show -(n : Int) < -Y by omega))
        rw [Int.neg_neg] at HS0
        have HS := Lib.hid HS0
        have x3 : -Y ≤ 1000 := by omega
        have x4 : -1000 ≤ -Y := by omega
        have x5 : Y ≤ 1000 := by omega
        have hf1 := qf 1
        clear HS0 q0 q2 qf r0 r1 r2 rf
        have hx3 := heap_setCell_at (k := 1) (.int .i64 (-(m : Int) - 1)) HX2.out
        have hO3 : OwS (wk.setCell ⟨w.heap.size + 1, 1, none⟩ (.int .i64 (-(m : Int) - 1))) (Iv (w.heap.size + 1 + 1) (wk.setCell ⟨w.heap.size + 1, 1, none⟩ (.int .i64 (-(m : Int) - 1))).heap.size) u6 (rowsP n L) := by
          have h1 := hO.keep (w' := wk.setCell ⟨w.heap.size + 1, 1, none⟩ (.int .i64 (-(m : Int) - 1))) fun j hj => Below.heap_setCell _ _ _ _ (by have := hj.1; simp only; omega)
          have h2 : (wk.setCell ⟨w.heap.size + 1, 1, none⟩ (.int .i64 (-(m : Int) - 1))).heap.size = wk.heap.size := by simp [World.setCell]
          rw [h2]; exact h1
        have hb3 : Below w.heap.size w (wk.setCell ⟨w.heap.size + 1, 1, none⟩ (.int .i64 (-(m : Int) - 1))) := set_below (by simp) hb2
        have hx4 : (wk.setCell ⟨w.heap.size + 1, 1, none⟩ (.int .i64 (-(m : Int) - 1))).heap[w.heap.size]? = some (.cells #[.int .i64 0, .int .i64 0, .slice none 0 0] 89) := by rw [Below.heap_setCell _ _ _ _ (by simp)]; exact HX1.out
        have hz3 : w.heap.size + 3 ≤ (wk.setCell ⟨w.heap.size + 1, 1, none⟩ (.int .i64 (-(m : Int) - 1))).heap.size := by simp [World.setCell]; omega
        have HO3 := Lib.hid hO3
        have HB3 := Lib.hid hb3
        have HX3 := Lib.hid hx3
        have HX4 := Lib.hid hx4
        have HZ3 := Lib.hid hz3
        clear hx3 hO3 hb3 hx4 hz3 hO
        go_wp2_with (go_at_call 61; refine (l03Abs_any _ _ x4 x3).mono ?_; rintro e w' ⟨rfl, rfl⟩; rw [hab])
        generalize wk.setCell ⟨w.heap.size + 1, 1, none⟩ (.int .i64 (-(m : Int) - 1)) = w5 at HO3 HB3 HX3 HX4 HZ3 ⊢
        have hz5 := HZ3.out
        refine (l04FlipAll_any _ n L w5.heap.size _ (HO3.out.sl fun b hb => hb.2) (Nat.le_refl _) (by omega) HSP.out (by omega)).mono ?_
        rintro e w6 ⟨r6, rfl, ho6, hb6⟩
        obtain ⟨A6, c6, rfl, -⟩ := id (ho6.sl fun b hb => hb.2)
        go_wp2_with fail
        refine (l04Half_any n _ (by omega)).mono ?_
        rintro e w7 ⟨r7, rfl, ho7, hb7⟩
        obtain ⟨A7, c7, rfl, -⟩ := id (ho7.sl (Nat.le_refl _))
        go_wp2_with fail
        refine (l04Behind_any _ n (pHalf n) Y _ _ (ho7.sl (Nat.le_refl _)) (Nat.le_refl _) (by omega) hY0 hYn).mono ?_
        rintro e w8 ⟨r8, rfl, ho8, hb8⟩
        obtain ⟨A8, c8, rfl, -⟩ := id (ho8.sl (Nat.le_refl _))
        have hb68 := hb7.trans (hb8.mono hb7.size)
        have hO8 := ho6.below hb68 (Nat.le_refl _)
        have ho8' := ho8.mono hb7.size (Nat.le_refl _)
        have hs56 := hb6.size
        have hs68 := hb68.size
        have hfl : (rowsP n (L.map (pFlip n))).length ≤ 1000000 := by rw [rowsP_len]; simp; omega
        go_wp2_with (at_builtin; refine wpList_append_row rfl _ _ rfl w8 w5.heap.size w6.heap.size (.slice A6 (rowsP n (L.map (pFlip n))).length c6) _ (rowsP n (L.map (pFlip n))) (toL n (beh (pHalf n) Y)) rfl rfl hO8 ho8' hs56 hs68 hfl ?_; intro v1 w9 hO9 hb9)
        have e9 : rowsP n (L.map (pFlip n)) ++ [toL n (beh (pHalf n) Y)] = rowsP n (L.map (pFlip n) ++ [beh (pHalf n) Y]) := (rowsP_snoc n _ _).symm
        rw [e9] at hO9
        have hO9' := hO9.mono (S' := Iv (w.heap.size + 1 + 1) w9.heap.size) fun b hb => ⟨by have := hb.1; omega, hb.2⟩
        have hb59 : Below w5.heap.size w5 w9 := (hb6.trans (hb68.mono hs56)).trans hb9
        have hb29 : Below w.heap.size w w9 := HB3.out.trans (hb59.mono (by omega))
        have hx19 := below_heap hb59 (by omega) HX4.out
        have hx29 := below_heap hb59 (by omega) HX3.out
        have hz9 : w.heap.size + 3 ≤ w9.heap.size := by have := hb59.size; omega
        have em : -(m : Int) - 1 = -((m + 1 : Nat) : Int) := by omega
        rw [em] at hx29
        have HX19 := Lib.hid hx19
        have HX29 := Lib.hid hx29
        have HO9 := Lib.hid hO9'
        clear hx19 hx29 hO9 hO9' em
        go_roundw
        case rel => exact ⟨k + 1, by omega, by go_num, by rw [HS.out]; exact HO9.out, HX19, Lib.hid (by rw [HS.out]; exact HX29.out), hb29, hz9⟩
        case measure => simp [intOf]; omega
    · obtain rfl : k = xs.length := by omega
      rw [List.take_length] at *
      have hst := hO.sl fun b hb => hb.2
      generalize hs : lst n xs = s at *
      obtain ⟨m, L⟩ := s
      have HSX := Lib.hid hs
      simp only [] at hll HSP q1 hO HX2 hst ⊢
      have m0 : (0 : Int) ≤ m := by omega
      have m1 : (m : Int) ≤ 1000 := by omega
      have hrl := rowsP_len n L
      obtain ⟨A3, c3, rfl, -⟩ := id hst
      rw [hrl] at hO ⊢
      clear q0 q1 q2 qf r0 r1 r2 rf hst hs
      go_wp2_with fail
      refine (l04Settle_any _ n L (w.heap.size + 1 + 1) wk hO (by omega) (by omega) HSP.out (by omega)).mono ?_
      rintro e w5 ⟨N, r, A5, c5, rfl, rfl, hM, hI, hb5⟩
      have HMM := Lib.hid hM
      have HII := Lib.hid hI
      have hN1 := hcN_le n N
      have hN2 := hM.len
      have hh0 : (0 : Int) ≤ (hcN n N : Nat) := by omega
      have hh1 : ((hcN n N : Nat) : Int) ≤ 1000 := by omega
      obtain ⟨q0, q1, q2, qf, qg⟩ := box3 (below_heap hb5 (by omega) HX2.out)
      obtain ⟨r0, r1, r2, rf, rg⟩ := box3 (below_heap hb5 (by omega) HX1.out)
      generalize hH : hcN n N = H at *
      generalize hR : rcN n N = R at *
      have HH := Lib.hid hH
      have HR := Lib.hid hR
      clear hH hR
      have qf1 := qf 1
      have qf2 := qf 2
      have rf0 := rf 0
      have rf1 := rf 1
      have rf2 := rf 2
      clear hM hI hN1 hN2 qf rf
      have far : ∀ k, ((w5.setCell ⟨w.heap.size + 1, 1, none⟩ (.int .i64 (-(m : Int) + H))).setCell ⟨w.heap.size + 1, 2, none⟩ (.slice A5 R c5)).cell? ⟨w.heap.size, k, none⟩ = w5.cell? ⟨w.heap.size, k, none⟩ := fun k => by
        rw [World.cell?_setCell_far _ _ _ _ (by simp), World.cell?_setCell_far _ _ _ _ (by simp)]
      obtain ⟨c1, c2, c4⟩ := three_sets_ _ w.heap.size (.int .i64 n) (.int .i64 (-(m : Int) + H)) (.slice A5 R c5) ((far 0).trans r0) ((far 1).trans r1) ((far 2).trans r2)
      clear far
      go_wp2_with fail
      refine bodyPost_ret (v := .agg #[.int .i64 n, .int .i64 (-(m : Int) + H), .slice A5 R c5]) (by simp [results, Try.results57, go_sem, c1, c2, c4]) rfl ?_
      refine ⟨N, A5, c5, by rw [HSX.out, HH.out, HR.out], by rw [HSX.out]; exact HMM.out, HII.out, ?_⟩
      exact set_below (Nat.le_refl _) (set_below (Nat.le_refl _) (set_below (Nat.le_refl _) (set_below (by simp) (set_below (by simp) (hb2.trans (hb5.mono (by omega)))))))
open Classical in
/-- Are two words equal braids? -/
noncomputable def eqG (n : Int) (xs ys : List Int) : Bool := decide (Gen (BrR n) (xs ++ inv ys) [])
open Classical in
theorem eqG_iff {n : Int} {xs ys : List Int} : eqG n xs ys = true ↔ Gen (BrR n) xs ys := by
  unfold eqG
  rw [decide_eq_true_eq]
  constructor
  · intro h
    have h1 : Gen (BrR n) (xs ++ inv ys ++ ys) ([] ++ ys) := h.right ys
    have h2 : Gen (BrR n) (xs ++ inv ys ++ ys) xs := by
      have := (Gen.inv_l (B := BrR n) ys).left xs
      simpa using this
    exact h2.symm.trans h1
  · intro h
    exact (h.right (inv ys)).trans (Gen.inv_r ys)
open Classical in
theorem eqG_val {n : Nat} {xs ys : List Int} (hx : In n xs) (hy : In n ys) {N : List Pm} (hM : Mvs n (lst n (xs ++ inv ys)).2 N) (hI : Irr n N) :
    eqG n xs ys = ((-((lst n (xs ++ inv ys)).1 : Int) + (hcN n N : Nat) == 0) && ((rcN n N : Int) == 0)) := by
  have h1 := trivial_iff (hx.append hy.inv) hM hI
  rw [triv_counts] at h1
  rw [Bool.eq_iff_iff]
  unfold eqG
  rw [decide_eq_true_eq, h1, Bool.and_eq_true, beq_iff_eq, beq_iff_eq]
  omega
set_option maxHeartbeats 1600000 in
theorem l04Equal_any (v u : Value) (n : Nat) (xs ys : List Int) (B : Nat) (w : World) (h : Sl w B v xs) (h2 : Sl w B u ys) (hB : B ≤ w.heap.size) (hn : n ≤ 12) (hx : In n xs) (hy : In n ys) (hs1 : xs.length ≤ 400) (hs2 : ys.length ≤ 400) :
    Calls Try.prog 34 #[.int .i64 n, v, u] w fun e w' => e = .returned (.bool (eqG n xs ys)) ∧ Below w.heap.size w w' := by
  have HX := Lib.hid hx
  have HY := Lib.hid hy
  have HIL := Lib.hid (inv_len ys)
  go_enter Try.func34, Try.ntmps34
  go_wp2_with fail
  refine (l00Own_any v xs B _ h hB (by omega)).mono ?_
  rintro e w1 ⟨r1, rfl, ho1, hb1⟩
  have h21 := h2.below hb1 hB
  obtain ⟨A1, c1, rfl, -⟩ := id (ho1.sl (Nat.le_refl _))
  go_wp2_with fail
  refine (l03Inverse_any u ys B _ h21 (Nat.le_trans hB hb1.size) (by omega) (fun x hx => by have := HY.out x hx; omega)).mono ?_
  rintro e w2 ⟨r2, rfl, ho2, hb2⟩
  have ho1' := (ho1.below hb2 (Nat.le_refl _)).mono (Nat.le_refl _) hb2.size
  have s2 := ho2.sl (Nat.le_refl _)
  obtain ⟨A2, c2, rfl, -⟩ := id s2
  have hz2 : w.heap.size ≤ w2.heap.size := Nat.le_trans hb1.size hb2.size
  have hb12 := hb1.trans (hb2.mono hb1.size)
  clear hx hy
  go_wp2_with (at_builtin; refine wpList_append_list rfl _ _ rfl _ _ _ _ _ _ _ _ rfl rfl ho1' s2 hz2 (by rw [HIL.out]; omega) ?_; intro v3 w3 hO3 hg3 _)
  have hbw := ho1'.grown hg3 (Nat.le_refl _) hz2
  have s3 := hO3.sl (Nat.le_refl _)
  have hb3 := hb12.trans hbw
  refine (l04Normal_any v3 n (xs ++ inv ys) _ _ s3 (Nat.le_refl _) hn (HX.out.append HY.out.inv) (by rw [List.length_append, HIL.out]; omega)).mono ?_
  rintro e w4 ⟨N, A4, c4, rfl, hM, hI, hb4⟩
  have HE := Lib.hid (eqG_val HX.out HY.out hM hI)
  have hb5 := hb3.trans (hb4.mono hb3.size)
  clear hM hI
  generalize -((lst n (xs ++ inv ys)).1 : Int) + (hcN n N : Nat) = P at *
  generalize rcN n N = R at *
  cases hp : (P == 0)
  · go_wp2_with fail
    go_ret
    exact ⟨ret_bool (by rw [HE.out, hp]; rfl), hb5.trans ((al1 w4 _).mono hb5.size)⟩
  · go_wp2_with fail
    go_ret
    exact ⟨ret_bool (by rw [HE.out, hp]; rfl), hb5.trans ((al1 w4 _).mono hb5.size)⟩
/-- What the reference's EqualBraids says; its IsTrivial. -/
noncomputable def eqBr (s : Int) (xs : List Int) (t : Int) (ys : List Int) : Bool := okBr s xs && okBr t ys && (s == t) && eqG s xs ys
noncomputable def trBr (s : Int) (xs : List Int) : Bool := okBr s xs && eqG s xs []
theorem okBr_in {s : Int} {xs : List Int} (h : okBr s xs = true) : In s xs := fun x hx => letters_mem (okBr_parts h).2.2.2 x hx
theorem l03Ok_is {s : Int} {v : Value} {xs : List Int} {B g : Nat} {w : World} {T : Bool} (hT : okBr s xs = T) (h : Sl w B v xs) (c0 : w.cell? ⟨g, 0, none⟩ = some (.int .i64 s)) (c1 : w.cell? ⟨g, 1, none⟩ = some v) :
    Calls Try.prog 33 #[.pointer (some ⟨g, 0, none⟩)] w fun e w' => e = .returned (.bool T) ∧ Below w.heap.size w w' := by
  rw [← hT]
  refine (l03Ok_any s v xs B g w h c0 c1).mono ?_
  rintro e w' ⟨rfl, n, rfl⟩
  exact ⟨rfl, drewN_below _ _ _⟩
set_option maxHeartbeats 1600000 in
theorem IsTrivial_any (s : Int) (v : Value) (xs : List Int) (B : Nat) (w : World) (h : Sl w B v xs) (hB : B ≤ w.heap.size) :
    Calls Try.prog 14 #[.agg #[.int .i64 s, v]] w fun e w' => e = .returned (.bool (trBr s xs)) ∧ Below w.heap.size w w' := by
  obtain ⟨A, c, rfl, hl, hm, -⟩ := id h
  unfold maxLen at hm
  have hA := al1 w (.cells #[.int .i64 s, .slice A xs.length c] 26)
  have hs := h.below hA hB
  have k0 : (w.alloc (.cells #[.int .i64 s, .slice A xs.length c] 26)).cell? ⟨w.heap.size, 0, none⟩ = some (.int .i64 s) := by simp
  have k1 : (w.alloc (.cells #[.int .i64 s, .slice A xs.length c] 26)).cell? ⟨w.heap.size, 1, none⟩ = some (.slice A xs.length c) := by simp
  cases hok : okBr s xs
  · have HE := Lib.hid (show trBr s xs = false by simp [trBr, hok])
    go_enter Try.func14, Try.ntmps14
    go_wp2_with (go_at_call 33; refine (l03Ok_is hok hs k0 k1).mono ?_; rintro e w1 ⟨rfl, hb⟩)
    go_ret
    exact ⟨ret_bool HE.out.symm, hA.trans (hb.mono hA.size)⟩
  · obtain ⟨p1, p2, p3, p4⟩ := okBr_parts hok
    obtain ⟨n, rfl⟩ : ∃ n : Nat, s = n := ⟨s.toNat, by omega⟩
    have HE := Lib.hid (show trBr n xs = eqG n xs [] by simp [trBr, hok])
    have HI := Lib.hid (okBr_in hok)
    go_enter Try.func14, Try.ntmps14
    go_wp2_with fail
    refine (l03Ok_is hok hs k0 k1).mono ?_
    rintro e w1 ⟨rfl, hb⟩
    obtain ⟨hc, hf⟩ := bcell hb
    have m0 : w1.cell? ⟨w.heap.size, 0, none⟩ = some (.int .i64 n) := by rw [hc _ _ (by simp)]; simp
    have m1 : w1.cell? ⟨w.heap.size, 1, none⟩ = some (.slice A xs.length c) := by rw [hc _ _ (by simp)]; simp
    have hs1 := hs.below hb (Nat.le_trans hB hA.size)
    have hbb := hA.trans (hb.mono hA.size)
    clear hc hf k0 k1
    go_wp2_with (go_at_call 34; refine (l04Equal_any _ _ n xs [] B _ hs1 (Sl.nil _ _) (Nat.le_trans hB hbb.size) (by omega) HI.out (in_nil _) (by omega) (by simp)).mono ?_; rintro e w2 ⟨rfl, hb2⟩)
    go_ret
    exact ⟨ret_bool HE.out.symm, hbb.trans (hb2.mono hbb.size)⟩
set_option maxHeartbeats 1600000 in
theorem EqualBraids_any (s t : Int) (v u : Value) (xs ys : List Int) (B : Nat) (w : World) (h : Sl w B v xs) (h2 : Sl w B u ys) (hB : B ≤ w.heap.size) :
    Calls Try.prog 10 #[.agg #[.int .i64 s, v], .agg #[.int .i64 t, u]] w fun e w' => e = .returned (.bool (eqBr s xs t ys)) ∧ Below w.heap.size w w' := by
  obtain ⟨A, c, rfl, hl, hm, -⟩ := id h
  unfold maxLen at hm
  obtain ⟨A2, c2, rfl, hl2, hm2, -⟩ := id h2
  unfold maxLen at hm2
  have hA := al2 w (.cells #[.int .i64 s, .slice A xs.length c] 26) (.cells #[.int .i64 t, .slice A2 ys.length c2] 26)
  have hs := h.below hA hB
  have hs2 := h2.below hA hB
  obtain ⟨k0, k1, k2, k3⟩ := braids_cells w s t (.slice A xs.length c) (.slice A2 ys.length c2)
  cases hok : okBr s xs
  · have HE := Lib.hid (show eqBr s xs t ys = false by simp [eqBr, hok])
    go_enter Try.func10, Try.ntmps10
    go_wp2_with (go_at_call 33; refine (l03Ok_is hok hs k0 k1).mono ?_; rintro e w1 ⟨rfl, hb⟩)
    go_ret
    exact ⟨ret_bool HE.out.symm, hA.trans (hb.mono hA.size)⟩
  · cases hok2 : okBr t ys
    · have HE := Lib.hid (show eqBr s xs t ys = false by simp [eqBr, hok, hok2])
      go_enter Try.func10, Try.ntmps10
      go_wp2_with fail
      refine (l03Ok_is hok hs k0 k1).mono ?_
      rintro e w1 ⟨rfl, hb⟩
      obtain ⟨hc, hf⟩ := bcell hb
      have m2 : w1.cell? ⟨w.heap.size + 1, 0, none⟩ = some (.int .i64 t) := by rw [hc _ _ (by simp)]; exact k2
      have m3 : w1.cell? ⟨w.heap.size + 1, 1, none⟩ = some (.slice A2 ys.length c2) := by rw [hc _ _ (by simp)]; exact k3
      have hs21 := hs2.below hb (Nat.le_trans hB hA.size)
      have hbb := hA.trans (hb.mono hA.size)
      clear hc hf k0 k1 k2 k3
      go_wp2_with (go_at_call 33; refine (l03Ok_is hok2 hs21 m2 m3).mono ?_; rintro e w2 ⟨rfl, hb2⟩)
      go_ret
      exact ⟨ret_bool HE.out.symm, hbb.trans (hb2.mono hbb.size)⟩
    · obtain ⟨p1, p2, p3, p4⟩ := okBr_parts hok
      obtain ⟨p5, p6, p7, p8⟩ := okBr_parts hok2
      obtain ⟨n, rfl⟩ : ∃ n : Nat, s = n := ⟨s.toNat, by omega⟩
      have HI := Lib.hid (okBr_in hok)
      have HI2 := Lib.hid (okBr_in hok2)
      cases hst : ((n : Int) == t)
      · have HE := Lib.hid (show eqBr n xs t ys = false by simp [eqBr, hok, hok2, hst])
        go_enter Try.func10, Try.ntmps10
        go_wp2_with fail
        refine (l03Ok_is hok hs k0 k1).mono ?_
        rintro e w1 ⟨rfl, hb⟩
        obtain ⟨hc, hf⟩ := bcell hb
        have m0 : w1.cell? ⟨w.heap.size, 0, none⟩ = some (.int .i64 n) := by rw [hc _ _ (by simp; omega)]; exact k0
        have m2 : w1.cell? ⟨w.heap.size + 1, 0, none⟩ = some (.int .i64 t) := by rw [hc _ _ (by simp)]; exact k2
        have m3 : w1.cell? ⟨w.heap.size + 1, 1, none⟩ = some (.slice A2 ys.length c2) := by rw [hc _ _ (by simp)]; exact k3
        have hs21 := hs2.below hb (Nat.le_trans hB hA.size)
        have hbb := hA.trans (hb.mono hA.size)
        clear hc hf k0 k1 k2 k3
        go_wp2_with fail
        refine (l03Ok_is hok2 hs21 m2 m3).mono ?_
        rintro e w2 ⟨rfl, hb2⟩
        obtain ⟨hc, hf⟩ := bcell hb2
        have n0 : w2.cell? ⟨w.heap.size, 0, none⟩ = some (.int .i64 n) := by rw [hc _ _ (block_lt_of_cell m0)]; exact m0
        have n2 : w2.cell? ⟨w.heap.size + 1, 0, none⟩ = some (.int .i64 t) := by rw [hc _ _ (block_lt_of_cell m2)]; exact m2
        clear hc hf m0 m2 m3
        go_wp2_with fail
        go_ret
        exact ⟨ret_bool HE.out.symm, hbb.trans (hb2.mono hbb.size)⟩
      · obtain rfl : (n : Int) = t := by simpa using hst
        have HE := Lib.hid (show eqBr n xs n ys = eqG n xs ys by simp [eqBr, hok, hok2])
        go_enter Try.func10, Try.ntmps10
        go_wp2_with fail
        refine (l03Ok_is hok hs k0 k1).mono ?_
        rintro e w1 ⟨rfl, hb⟩
        obtain ⟨hc, hf⟩ := bcell hb
        have m0 : w1.cell? ⟨w.heap.size, 0, none⟩ = some (.int .i64 n) := by rw [hc _ _ (by simp; omega)]; exact k0
        have m1 : w1.cell? ⟨w.heap.size, 1, none⟩ = some (.slice A xs.length c) := by rw [hc _ _ (by simp; omega)]; exact k1
        have m2 : w1.cell? ⟨w.heap.size + 1, 0, none⟩ = some (.int .i64 n) := by rw [hc _ _ (by simp)]; exact k2
        have m3 : w1.cell? ⟨w.heap.size + 1, 1, none⟩ = some (.slice A2 ys.length c2) := by rw [hc _ _ (by simp)]; exact k3
        have hs11 := hs.below hb (Nat.le_trans hB hA.size)
        have hs21 := hs2.below hb (Nat.le_trans hB hA.size)
        have hbb := hA.trans (hb.mono hA.size)
        clear hc hf k0 k1 k2 k3
        go_wp2_with fail
        refine (l03Ok_is hok2 hs21 m2 m3).mono ?_
        rintro e w2 ⟨rfl, hb2⟩
        obtain ⟨hc, hf⟩ := bcell hb2
        have n0 : w2.cell? ⟨w.heap.size, 0, none⟩ = some (.int .i64 n) := by rw [hc _ _ (block_lt_of_cell m0)]; exact m0
        have n1 : w2.cell? ⟨w.heap.size, 1, none⟩ = some (.slice A xs.length c) := by rw [hc _ _ (block_lt_of_cell m1)]; exact m1
        have n2 : w2.cell? ⟨w.heap.size + 1, 0, none⟩ = some (.int .i64 n) := by rw [hc _ _ (block_lt_of_cell m2)]; exact m2
        have n3 : w2.cell? ⟨w.heap.size + 1, 1, none⟩ = some (.slice A2 ys.length c2) := by rw [hc _ _ (block_lt_of_cell m3)]; exact m3
        have hB1 := Nat.le_trans hB hbb.size
        have hs12 := hs11.below hb2 hB1
        have hs22 := hs21.below hb2 hB1
        have hbb2 := hbb.trans (hb2.mono hbb.size)
        clear hc hf m0 m1 m2 m3
        go_wp2_with (go_at_call 34; refine (l04Equal_any _ _ n xs ys B _ hs12 hs22 (Nat.le_trans hB hbb2.size) (by omega) HI.out HI2.out (by omega) (by omega)).mono ?_; rintro e w3 ⟨rfl, hb3⟩)
        go_ret
        exact ⟨ret_bool HE.out.symm, hbb2.trans (hb3.mono hbb2.size)⟩
end Go.Proofs.Ytcinnbkhnonijaa
