/-
  Contracts: the main letter (the reference's l06Main), MainLetter and FirstHandle of both.
-/
import Derived.Test.YtphbmdoeaebhnaaHnd3
namespace Go.Proofs.Ytphbmdoeaebhnaa
open Go.RowKit

set_option maxHeartbeats 1600000 in
theorem l06Main_any (v : Value) (xs : List Int) (B : Nat) (w : World) (h : Sl w B v xs) (hbd : Lt xs) :
    Calls Try.prog 66 #[v] w fun e w' => e = .returned (.tuple #[.int .i64 (mainV xs), .bool (pureL xs)]) ∧ ∃ n, w' = w.drewN n := by
  obtain ⟨A, c, rfl, hl, hm, _, hcells⟩ := h
  unfold maxLen at hm
  have HB := Lib.hid hbd
  clear hbd
  rcases Nat.eq_zero_or_pos xs.length with h0 | hp
  · obtain rfl : xs = [] := List.eq_nil_of_length_eq_zero h0
    go_enter Try.func66, Try.ntmps66
    go_wp2
    go_ret2
    exact ⟨rfl, 0, rfl⟩
  · obtain ⟨b, off, rfl, hbB, hcell⟩ := hcells hp
    have q0 : w.cell? ⟨b, off, none⟩ = some (.int .i64 (gi xs 0)) := hcell 0 hp
    have hp0 : ((xs.length : Int) == 0) = false := by simp; intro e; rw [e] at hp; simp at hp
    have HC := Lib.hid hcell
    clear hcells hcell
    go_enter Try.func66, Try.ntmps66
    go_wp2
    go_loopw [4, 5] (fun m i wr => ∃ k : Nat, 1 ≤ k ∧ k ≤ xs.length ∧ i = .int .i64 k ∧ m = .int .i64 (mainL (xs.take k)) ∧ ∃ n, wr = w.drewN n) (fun _ i _ => xs.length - (intOf i).toNat)
    case atStart =>
      refine ⟨1, Nat.le_refl _, hp, by go_num, ?_, 0, rfl⟩
      have := take_gi (xs := xs) (k := 0) hp
      rw [Nat.zero_add] at this
      rw [this]
      simp [mainL, mainStep]
    case round =>
      obtain ⟨k, hk1, hk, rfl, rfl, n, rfl⟩ := hrel
      have hmin := mainL_min (p := xs.take k) (fun x hx => (HB.out x (List.mem_of_mem_take hx)).1)
      have hMb : mainL (xs.take k) ≠ 0 ∧ -11 ≤ mainL (xs.take k) ∧ mainL (xs.take k) ≤ 11 := by
        rcases hmin with ⟨e, _⟩ | ⟨_, e, _⟩
        · have h1 : (xs.take k).length = 0 := by rw [e]; rfl
          rw [List.length_take] at h1; omega
        · exact HB.out _ (List.mem_of_mem_take e)
      clear hmin
      obtain ⟨m0, m1, m2⟩ := hMb
      by_cases hlt : k < xs.length
      · have q1 := HC.out k hlt
        obtain ⟨x0, x1, x2⟩ := HB.out _ (gi_mem hlt)
        have HT := Lib.hid (take_gi hlt)
        have HL := Lib.hid (mainL_append (xs.take k) (gi xs k))
        by_cases hc : ab (gi xs k) < ab (mainL (xs.take k))
        · have HR := Lib.hid (show mainL (xs.take (k + 1)) = gi xs k by rw [HT.out, HL.out, mainStep, if_pos (.inr hc)])
          go_wp2_with (go_at_call 88; refine (l03Abs_any _ _ (by omega) (by omega)).mono ?_; rintro e w' ⟨rfl, rfl⟩)
          go_roundw
          case rel => exact ⟨k + 1, by omega, by omega, by go_num, by rw [HR.out], _, rfl⟩
          case measure => simp [intOf]; omega
        · have HR := Lib.hid (show mainL (xs.take (k + 1)) = mainL (xs.take k) by rw [HT.out, HL.out, mainStep, if_neg (by omega)])
          have hcb : decide (ab (gi xs k) < ab (mainL (xs.take k))) = false := by simp [hc]
          go_wp2_with (go_at_call 88; refine (l03Abs_any _ _ (by omega) (by omega)).mono ?_; rintro e w' ⟨rfl, rfl⟩)
          go_roundw
          case rel => exact ⟨k + 1, by omega, by omega, by go_num, by rw [HR.out], _, rfl⟩
          case measure => simp [intOf]; omega
      · obtain rfl : k = xs.length := by omega
        rw [List.take_length] at m0 m1 m2 ⊢
        go_wp2
        go_loopw [6] (fun i wr => ∃ k : Nat, k ≤ xs.length ∧ i = .int .i64 k ∧ (∀ j, j < k → gi xs j ≠ -mainL xs) ∧ ∃ n, wr = w.drewN n) (fun i _ => xs.length - (intOf i).toNat)
        case atStart => exact ⟨0, Nat.zero_le _, by go_num, fun j hj => absurd hj (Nat.not_lt_zero _), _, rfl⟩
        case round =>
          obtain ⟨k, hk, rfl, hg, n2, rfl⟩ := hrel
          have HG := Lib.hid hg
          clear hg
          by_cases hlt : k < xs.length
          · have q1 := HC.out k hlt
            by_cases he : gi xs k = -mainL xs
            · have heb : (gi xs k == -mainL xs) = true := by simp [he]
              have HP := Lib.hid (show pureL xs = false by
                rw [← Bool.not_eq_true, pureL]
                intro h
                simp only [Bool.and_eq_true, List.all_eq_true, bne_iff_ne, ne_eq] at h
                exact h.2 _ (gi_mem hlt) he)
              clear he
              go_wp2
              go_ret2
              exact ⟨by rw [mainV, HP.out]; simp, _, rfl⟩
            · have heb : (gi xs k == -mainL xs) = false := by simp [he]
              have HN := Lib.hid he
              clear he
              go_wp2
              go_roundw
              case rel =>
                refine ⟨k + 1, by omega, by go_num, fun j hj => ?_, _, rfl⟩
                by_cases hjk : j < k
                · exact HG.out j hjk
                · obtain rfl : j = k := by omega
                  exact HN.out
              case measure => simp [intOf]; omega
          · have HP := Lib.hid (show pureL xs = true by
              rw [pureL]
              simp only [Bool.and_eq_true, List.all_eq_true, bne_iff_ne, ne_eq]
              refine ⟨by cases xs with | nil => simp at hp | cons a l => rfl, fun x hx => ?_⟩
              obtain ⟨j, hj, rfl⟩ := List.getElem_of_mem hx
              rw [← gi_eq hj]
              exact HG.out j (by omega))
            go_wp2
            go_ret2
            exact ⟨by rw [mainV, HP.out]; simp, _, rfl⟩
def mlV (s : Int) (xs : List Int) : Int := if okBr s xs = true then mainV xs else 0
def mlB (s : Int) (xs : List Int) : Bool := okBr s xs && pureL xs
set_option maxHeartbeats 1600000 in
theorem impl_MainLetter_any (s : Int) (v : Value) (xs : List Int) (B : Nat) (w : World) (h : Sl w B v xs) (hB : B ≤ w.heap.size) :
    Calls Try.prog 32 #[.agg #[.int .i64 s, v]] w fun e w' => e = .returned (.tuple #[.int .i64 (mlV s xs), .bool (mlB s xs)]) ∧ Below w.heap.size w w' := by
  obtain ⟨A, c, rfl, hl, hm, -⟩ := id h
  unfold maxLen at hm
  have hA := al1 w (.cells #[.int .i64 s, .slice A xs.length c] 40)
  have hs := h.below hA hB
  cases hok : okBr s xs
  · have H1 := Lib.hid (show mlV s xs = 0 by simp [mlV, hok])
    have H2 := Lib.hid (show mlB s xs = false by simp [mlB, hok])
    go_enter Try.func32, Try.ntmps32
    go_wp2_with (go_at_call 63; refine (impl_ValidBraid_any _ _ xs B _ hs (Nat.le_trans hB hA.size)).mono ?_; rintro e w' ⟨rfl, hb⟩; obtain ⟨hc, hf⟩ := bcell hb)
    go_ret2
    exact ⟨by rw [H1.out, H2.out]; rfl, hA.trans (hb.mono hA.size)⟩
  · have H1 := Lib.hid (show mlV s xs = mainV xs by simp [mlV, hok])
    have H2 := Lib.hid (show mlB s xs = pureL xs by simp [mlB, hok])
    have HL := Lib.hid (fun x hx => okBr_mem hok x hx)
    go_enter Try.func32, Try.ntmps32
    go_wp2_with fail
    refine (impl_ValidBraid_any _ _ xs B _ hs (Nat.le_trans hB hA.size)).mono ?_
    rintro e w1 ⟨rfl, hb⟩
    obtain ⟨hc, hf⟩ := bcell hb
    have hz := hb.size
    simp at hz
    have hz1 : w.heap.size < w1.heap.size := by omega
    go_wp2_with fail
    refine (mainLetter_any _ xs B _ (hs.below hb (Nat.le_trans hB hA.size)) HL.out).mono ?_
    rintro e w' ⟨rfl, rfl⟩
    go_wp2_with fail
    go_ret2
    exact ⟨by rw [H1.out, H2.out]; rfl, hA.trans (hb.mono hA.size)⟩
set_option maxHeartbeats 1600000 in
theorem spec_MainLetter_any (s : Int) (v : Value) (xs : List Int) (B : Nat) (w : World) (h : Sl w B v xs) (hB : B ≤ w.heap.size) :
    Calls Try.prog 31 #[.agg #[.int .i64 s, v]] w fun e w' => e = .returned (.tuple #[.int .i64 (mlV s xs), .bool (mlB s xs)]) ∧ Below w.heap.size w w' := by
  obtain ⟨A, c, rfl, hl, hm, -⟩ := id h
  unfold maxLen at hm
  have hA := al1 w (.cells #[.int .i64 s, .slice A xs.length c] 40)
  have hs := h.below hA hB
  have m0 : (w.alloc (.cells #[.int .i64 s, .slice A xs.length c] 40)).cell? ⟨w.heap.size, 0, none⟩ = some (.int .i64 s) := by simp
  have m1 : (w.alloc (.cells #[.int .i64 s, .slice A xs.length c] 40)).cell? ⟨w.heap.size, 1, none⟩ = some (.slice A xs.length c) := by simp
  cases hok : okBr s xs
  · have H1 := Lib.hid (show mlV s xs = 0 by simp [mlV, hok])
    have H2 := Lib.hid (show mlB s xs = false by simp [mlB, hok])
    go_enter Try.func31, Try.ntmps31
    go_wp2_with (go_at_call 61; refine (l03Ok_any _ _ xs B _ _ hs m0 m1).mono ?_; rintro e w' ⟨rfl, n, rfl⟩)
    go_ret2
    exact ⟨by rw [H1.out, H2.out]; rfl, below_drewN hA _⟩
  · have H1 := Lib.hid (show mlV s xs = mainV xs by simp [mlV, hok])
    have H2 := Lib.hid (show mlB s xs = pureL xs by simp [mlB, hok])
    have HL := Lib.hid (fun x hx => okBr_mem hok x hx)
    go_enter Try.func31, Try.ntmps31
    go_wp2_with (first | (go_at_call 61; refine (l03Ok_any _ _ xs B _ _ hs m0 m1).mono ?_; rintro e w' ⟨rfl, n, rfl⟩) | (go_at_call 66; refine (l06Main_any _ xs B _ (hs.drewN _) HL.out).mono ?_; rintro e w' ⟨rfl, n2, rfl⟩))
    go_ret2
    exact ⟨by rw [H1.out, H2.out]; rfl, by first | exact below_drewN (below_drewN hA _) _ | exact below_drewN hA _⟩
theorem two_sets (w1 : World) (g : Nat) {u0 u1 : Value} (x y : Value) (h0 : w1.cell? ⟨g, 0, none⟩ = some u0) (h1 : w1.cell? ⟨g, 1, none⟩ = some u1) :
    (w1.setCell ⟨g, 0, none⟩ x).cell? ⟨g, 0, none⟩ = some x ∧ ((w1.setCell ⟨g, 0, none⟩ x).setCell ⟨g, 1, none⟩ y).cell? ⟨g, 0, none⟩ = some x ∧ ((w1.setCell ⟨g, 0, none⟩ x).setCell ⟨g, 1, none⟩ y).cell? ⟨g, 1, none⟩ = some y := by
  have a0 := World.cell?_setCell_same w1 ⟨g, 0, none⟩ x h0
  have a1 : (w1.setCell ⟨g, 0, none⟩ x).cell? ⟨g, 1, none⟩ = some u1 := by
    rw [World.cell?_setCell_other]
    · exact h1
    · intro e; injection e with e1 e2; cases e2
  refine ⟨a0, ?_, World.cell?_setCell_same _ _ _ a1⟩
  rw [World.cell?_setCell_other]
  · exact a0
  · intro e; injection e with e1 e2; cases e2
def fhF (s : Int) (xs : List Int) : Int := if okBr s xs = true then hF xs else 0
def fhT (s : Int) (xs : List Int) : Int := if okBr s xs = true then hT xs else 0
def fhB (s : Int) (xs : List Int) : Bool := okBr s xs && hOk xs
set_option maxHeartbeats 1600000 in
theorem impl_FirstHandle_any (s : Int) (v : Value) (xs : List Int) (B : Nat) (w : World) (h : Sl w B v xs) (hB : B ≤ w.heap.size) :
    Calls Try.prog 34 #[.agg #[.int .i64 s, v]] w fun e w' => e = .returned (.tuple #[.agg #[.int .i64 (fhF s xs), .int .i64 (fhT s xs)], .bool (fhB s xs)]) ∧ Below w.heap.size w w' := by
  obtain ⟨A, c, rfl, hl, hm, -⟩ := id h
  unfold maxLen at hm
  have hA := al2 w (.cells #[.int .i64 s, .slice A xs.length c] 40) (.cells #[.int .i64 0, .int .i64 0] 42)
  have hs := h.below hA hB
  have hB1 := Nat.le_trans hB hA.size
  obtain ⟨n0, n1⟩ := braid_cells w s (.slice A xs.length c) (.cells #[.int .i64 0, .int .i64 0] 42)
  cases hok : okBr s xs
  · have H1 := Lib.hid (show fhF s xs = 0 by simp [fhF, hok])
    have H2 := Lib.hid (show fhT s xs = 0 by simp [fhT, hok])
    have H3 := Lib.hid (show fhB s xs = false by simp [fhB, hok])
    go_enter Try.func34, Try.ntmps34
    go_wp2_with fail
    refine (impl_ValidBraid_any _ _ xs B _ hs hB1).mono ?_
    rintro e w1 ⟨rfl, hb⟩
    obtain ⟨hc, hf⟩ := bcell hb
    have hz := hb.size
    simp at hz
    have hz1 : w.heap.size + 1 < w1.heap.size := by omega
    have k0 : w1.cell? ⟨w.heap.size + 1, 0, none⟩ = some (.int .i64 0) := by rw [hc _ _ (by simp)]; simp
    have k1 : w1.cell? ⟨w.heap.size + 1, 1, none⟩ = some (.int .i64 0) := by rw [hc _ _ (by simp)]; simp
    obtain ⟨e0, e1, e2⟩ := two_sets w1 _ (.int .i64 0) (.int .i64 0) k0 k1
    go_wp2_with fail
    refine bodyPost_ret (v := .tuple #[.agg #[.int .i64 0, .int .i64 0], .bool false]) (by simp [results, Try.results34, go_sem, e1, e2]) rfl ?_
    exact ⟨by rw [H1.out, H2.out, H3.out], set_below (by simp) (set_below (by simp) (hA.trans (hb.mono hA.size)))⟩
  · have H1 := Lib.hid (show fhF s xs = hF xs by simp [fhF, hok])
    have H2 := Lib.hid (show fhT s xs = hT xs by simp [fhT, hok])
    have H3 := Lib.hid (show fhB s xs = hOk xs by simp [fhB, hok])
    have HL := Lib.hid (fun x hx => okBr_mem hok x hx)
    go_enter Try.func34, Try.ntmps34
    go_wp2_with fail
    refine (impl_ValidBraid_any _ _ xs B _ hs hB1).mono ?_
    rintro e w1 ⟨rfl, hb⟩
    obtain ⟨hc, hf⟩ := bcell hb
    have hz := hb.size
    simp at hz
    have hz1 : w.heap.size < w1.heap.size := by omega
    have hz2 : w.heap.size + 1 < w1.heap.size := by omega
    have k0 : w1.cell? ⟨w.heap.size + 1, 0, none⟩ = some (.int .i64 0) := by rw [hc _ _ (by simp)]; simp
    have k1 : w1.cell? ⟨w.heap.size + 1, 1, none⟩ = some (.int .i64 0) := by rw [hc _ _ (by simp)]; simp
    have k2 : w1.cell? ⟨w.heap.size, 1, none⟩ = some (.slice A xs.length c) := by rw [hc _ _ (by simp; omega)]; exact n1
    have hb0 := hA.trans (hb.mono hA.size)
    have f0 : w1.frozen? ⟨w.heap.size + 1, 0, none⟩ = false := by rw [hf _ _ (by simp)]; simp
    have f1 : w1.frozen? ⟨w.heap.size + 1, 1, none⟩ = false := by rw [hf _ _ (by simp)]; simp
    clear hc hf
    go_wp2_with fail
    refine (firstHandle_any _ xs B _ (hs.below hb hB1) (Nat.le_trans hB1 hb.size) HL.out).mono ?_
    rintro e w2 ⟨rfl, hb2⟩
    obtain ⟨hc, hf⟩ := bcell hb2
    have hz3 : w.heap.size + 1 < w2.heap.size := Nat.lt_of_lt_of_le hz2 hb2.size
    have k3 : w2.cell? ⟨w.heap.size + 1, 0, none⟩ = some (.int .i64 0) := by rw [hc _ _ hz2]; exact k0
    have k4 : w2.cell? ⟨w.heap.size + 1, 1, none⟩ = some (.int .i64 0) := by rw [hc _ _ hz2]; exact k1
    obtain ⟨e0, e1, e2⟩ := two_sets w2 _ (.int .i64 (hF xs)) (.int .i64 (hT xs)) k3 k4
    go_wp2_with fail
    refine bodyPost_ret (v := .tuple #[.agg #[.int .i64 (hF xs), .int .i64 (hT xs)], .bool (hOk xs)]) (by simp [results, Try.results34, go_sem, e1, e2]) rfl ?_
    exact ⟨by rw [H1.out, H2.out, H3.out], set_below (by simp) (set_below (by simp) (hb0.trans (hb2.mono hb0.size)))⟩
set_option maxHeartbeats 1600000 in
theorem spec_FirstHandle_any (s : Int) (v : Value) (xs : List Int) (B : Nat) (w : World) (h : Sl w B v xs) (hB : B ≤ w.heap.size) :
    Calls Try.prog 33 #[.agg #[.int .i64 s, v]] w fun e w' => e = .returned (.tuple #[.agg #[.int .i64 (fhF s xs), .int .i64 (fhT s xs)], .bool (fhB s xs)]) ∧ Below w.heap.size w w' := by
  obtain ⟨A, c, rfl, hl, hm, -⟩ := id h
  unfold maxLen at hm
  have hA := al2 w (.cells #[.int .i64 s, .slice A xs.length c] 40) (.cells #[.int .i64 0, .int .i64 0] 42)
  have hs := h.below hA hB
  have hB1 := Nat.le_trans hB hA.size
  obtain ⟨n0, n1⟩ := braid_cells w s (.slice A xs.length c) (.cells #[.int .i64 0, .int .i64 0] 42)
  cases hok : okBr s xs
  · have H1 := Lib.hid (show fhF s xs = 0 by simp [fhF, hok])
    have H2 := Lib.hid (show fhT s xs = 0 by simp [fhT, hok])
    have H3 := Lib.hid (show fhB s xs = false by simp [fhB, hok])
    go_enter Try.func33, Try.ntmps33
    go_wp2_with (go_at_call 61; refine (l03Ok_any _ _ xs B _ _ hs n0 n1).mono ?_; rintro e w' ⟨rfl, n, rfl⟩)
    go_returns
    exact ⟨by rw [H1.out, H2.out, H3.out], set_below (by simp) (set_below (by simp) (below_drewN hA _))⟩
  · have H1 := Lib.hid (show fhF s xs = hF xs by simp [fhF, hok])
    have H2 := Lib.hid (show fhT s xs = hT xs by simp [fhT, hok])
    have H3 := Lib.hid (show fhB s xs = hOk xs by simp [fhB, hok])
    have HL := Lib.hid (fun x hx => okBr_mem hok x hx)
    go_enter Try.func33, Try.ntmps33
    go_wp2_with fail
    refine (l03Ok_any _ _ xs B _ _ hs n0 n1).mono ?_
    rintro e w' ⟨rfl, n, rfl⟩
    go_wp2_with fail
    refine (l06First_any _ xs B _ (hs.drewN _) hB1 HL.out).mono ?_
    rintro e w2 ⟨rfl, hb2⟩
    obtain ⟨hc, hf⟩ := bcell hb2
    have hz3 : w.heap.size + 1 < w2.heap.size := by have := hb2.size; simp at this; omega
    have k3 : w2.cell? ⟨w.heap.size + 1, 0, none⟩ = some (.int .i64 0) := by rw [hc _ _ (by simp)]; simp
    have k4 : w2.cell? ⟨w.heap.size + 1, 1, none⟩ = some (.int .i64 0) := by rw [hc _ _ (by simp)]; simp
    obtain ⟨e0, e1, e2⟩ := two_sets w2 _ (.int .i64 (hF xs)) (.int .i64 (hT xs)) k3 k4
    go_wp2_with fail
    refine bodyPost_ret (v := .tuple #[.agg #[.int .i64 (hF xs), .int .i64 (hT xs)], .bool (hOk xs)]) (by simp [results, Try.results33, go_sem, e1, e2]) rfl ?_
    exact ⟨by rw [H1.out, H2.out, H3.out], set_below (by simp) (set_below (by simp) ((below_drewN hA _).trans (hb2.mono hA.size)))⟩
end Go.Proofs.Ytphbmdoeaebhnaa
