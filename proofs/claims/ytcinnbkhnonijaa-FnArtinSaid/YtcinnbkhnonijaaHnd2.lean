/-
  Contracts: where a handle begins, the first handle, whether a pair is a handle (the program's and the reference's functions).
-/
import Derived.Test.YtcinnbkhnonijaaHnd
import Derived.Lib.QuietBelow
import Derived.BigGuardPart
namespace Go.Proofs.Ytcinnbkhnonijaa
set_option maxRecDepth 10000
open Go.RowKit Go.Sort

theorem set_below {B : Nat} {w w1 : World} {p : Addr} {x : Value} (hp : B ≤ p.block) (h : Below B w w1) : Below B w (w1.setCell p x) :=
  ⟨h.os, h.tape, h.output, by simpa [World.setCell] using h.size, fun b hb => by rw [Below.heap_setCell _ _ _ _ (by omega)]; exact h.block b hb⟩
theorem drewN_drewN (w : World) (n m : Nat) : (w.drewN n).drewN m = w.drewN (n + m) := World.drewN_drewN w n m
set_option maxHeartbeats 1600000 in
theorem handleTo_any (v : Value) (xs : List Int) (B : Nat) (k : Nat) (w : World) (h : Sl w B v xs) (hbd : Lt xs) (hk : k < xs.length) :
    Calls Try.prog 46 #[v, .int .i64 k] w fun e w' => e = .returned (.int .i64 (hTo xs k)) ∧ ∃ n, w' = w.drewN n := by
  obtain ⟨A, c, rfl, hl, hm, _, hcells⟩ := h
  unfold maxLen at hm
  obtain ⟨b, off, rfl, hbB, hcell⟩ := hcells (by omega)
  have q0 := hcell k hk
  have HC := Lib.hid hcell
  have HB := Lib.hid hbd
  obtain ⟨x0, x1, x2⟩ := hbd _ (gi_mem hk)
  clear hcells hcell hbd
  go_enter Try.func46, Try.ntmps46
  go_wp2
  go_loopw [5] (fun i wr => ∃ m : Nat, m ≤ k ∧ i = .int .i64 ((m : Int) - 1) ∧ hTo xs k = hSeek xs (gi xs k) m ∧ ∃ n, wr = w.drewN n) (fun i _ => (intOf i + 1).toNat)
  case atStart => exact ⟨k, Nat.le_refl _, by go_num, rfl, 0, rfl⟩
  case round =>
    obtain ⟨m, hmk, rfl, he, n, rfl⟩ := hrel
    cases m with
    | zero =>
      have HE := Lib.hid (he.trans (show hSeek xs (gi xs k) 0 = -1 from rfl))
      clear he
      go_wp2
      go_ret
      exact ⟨ret_int HE.out.symm, _, rfl⟩
    | succ m =>
      rw [show (((m + 1 : Nat) : Int) - 1) = m by omega]
      have hlt : m < xs.length := by omega
      have q1 := HC.out m hlt
      obtain ⟨y0, y1, y2⟩ := HB.out _ (gi_mem hlt)
      by_cases h1 : ab (gi xs m) = ab (gi xs k)
      · have h1b : (ab (gi xs m) == ab (gi xs k)) = true := by simp [h1]
        by_cases h2 : gi xs m = gi xs k
        · have h2b : (gi xs m == gi xs k) = true := by simp [h2]
          have HE := Lib.hid (he.trans (show hSeek xs (gi xs k) (m + 1) = -1 by rw [hSeek, if_pos h1, if_pos h2]))
          clear he h1 h2
          go_wp2_with (go_at_call 64; refine (size_any _ _ (by omega) (by omega)).mono ?_; rintro e w' ⟨rfl, rfl⟩)
          go_quiet (fail)
          go_wp2
          go_ret
          exact ⟨ret_int HE.out.symm, quiet_end _ _ _⟩
        · have h2b : (gi xs m == gi xs k) = false := by simp [h2]
          have HE := Lib.hid (he.trans (show hSeek xs (gi xs k) (m + 1) = m by rw [hSeek, if_pos h1, if_neg h2]))
          clear he h1 h2
          go_wp2_with (go_at_call 64; refine (size_any _ _ (by omega) (by omega)).mono ?_; rintro e w' ⟨rfl, rfl⟩)
          go_quiet (fail)
          go_wp2
          go_ret
          exact ⟨ret_int HE.out.symm, quiet_end _ _ _⟩
      · have h1b : (ab (gi xs m) == ab (gi xs k)) = false := by simp [h1]
        have hbd1 : 0 < ab (gi xs k) ∧ ab (gi xs k) ≤ 11 := by unfold ab; omega
        by_cases h2 : ab (gi xs m) = ab (gi xs k) - 1
        · have h2b : (ab (gi xs m) == ab (gi xs k) - 1) = true := by simp [h2]
          have HE := Lib.hid (he.trans (show hSeek xs (gi xs k) (m + 1) = -1 by rw [hSeek, if_neg h1, if_pos h2]))
          clear he h1 h2
          go_wp2_with (go_at_call 64; refine (size_any _ _ (by omega) (by omega)).mono ?_; rintro e w' ⟨rfl, rfl⟩)
          go_ret
          exact ⟨ret_int HE.out.symm, _, rfl⟩
        · have h2b : (ab (gi xs m) == ab (gi xs k) - 1) = false := by simp [h2]
          have HE := Lib.hid (he.trans (show hSeek xs (gi xs k) (m + 1) = hSeek xs (gi xs k) m by rw [hSeek, if_neg h1, if_neg h2]))
          clear he h1 h2
          go_wp2_with (go_at_call 64; refine (size_any _ _ (by omega) (by omega)).mono ?_; rintro e w' ⟨rfl, rfl⟩)
          go_roundw
          case rel => exact ⟨m, by omega, by go_num, HE.out, _, rfl⟩
          case measure => simp [intOf]
set_option maxHeartbeats 1600000 in
theorem firstHandle_any (v : Value) (xs : List Int) (B : Nat) (w : World) (h : Sl w B v xs) (hB : B ≤ w.heap.size) (hbd : Lt xs) :
    Calls Try.prog 44 #[v] w fun e w' => e = .returned (.tuple #[.agg #[.int .i64 (hF xs), .int .i64 (hT xs)], .bool (hOk xs)]) ∧ Below w.heap.size w w' := by
  obtain ⟨A, c, rfl, hl, hm, -⟩ := id h
  unfold maxLen at hm
  have HS := Lib.hid h
  have HB := Lib.hid hbd
  clear hbd h
  go_enter Try.func44, Try.ntmps44
  go_wp2
  go_loopw [8] (fun i wr => ∃ m : Nat, m ≤ xs.length ∧ i = .int .i64 m ∧ (∀ j, j < m → hTo xs j < 0) ∧ ∃ n, wr = (w.alloc (.cells #[.int .i64 0, .int .i64 0] 39)).drewN n) (fun i _ => xs.length - (intOf i).toNat)
  case atStart => exact ⟨0, Nat.zero_le _, by go_num, fun j hj => absurd hj (Nat.not_lt_zero _), 0, rfl⟩
  case round =>
    obtain ⟨m, hmk, rfl, he, n, rfl⟩ := hrel
    by_cases hlt : m < xs.length
    · have hq := hTo_bd xs m
      have HE := Lib.hid he
      have hs := (HS.out.below (al1 w (.cells #[.int .i64 0, .int .i64 0] 39)) hB).drewN n
      clear he
      by_cases h1 : 0 ≤ hTo xs m
      · have HF := Lib.hid (firstT_some hlt HE.out h1)
        go_wp2_with (go_at_call 46; refine (handleTo_any _ _ _ m _ hs HB.out hlt).mono ?_; rintro e w' ⟨rfl, n2, rfl⟩)
        go_returns
        exact ⟨by rw [hF, hT, hOk, HF.out]; rfl, set_below (Nat.le_refl _) (set_below (Nat.le_refl _) (below_drewN (al1 _ _) _))⟩
      · go_wp2_with (go_at_call 46; refine (handleTo_any _ _ _ m _ hs HB.out hlt).mono ?_; rintro e w' ⟨rfl, n2, rfl⟩)
        go_roundw
        case rel =>
          refine ⟨m + 1, by omega, by go_num, fun j hj => ?_, ⟨_, rfl⟩⟩
          by_cases hjk : j < m
          · exact HE.out j hjk
          · obtain rfl : j = m := by omega
            omega
        case measure => simp [intOf]; omega
    · have HE := Lib.hid (firstT_none fun j hj => he j (by omega))
      clear he
      go_wp2
      go_returns
      exact ⟨by rw [hF, hT, hOk, HE.out]; rfl, set_below (Nat.le_refl _) (set_below (Nat.le_refl _) (below_drewN (al1 _ _) _))⟩
theorem isH_facts (w : World) (s f t : Int) (v : Value) : let W := (w.alloc (.cells #[.int .i64 s, v] 26)).alloc (.cells #[.int .i64 f, .int .i64 t] 39)
    (∀ x os, (grow (redrawn W x) os).cell? ⟨w.heap.size, 0, none⟩ = some (.int .i64 s)) ∧ (∀ x os, (grow (redrawn W x) os).cell? ⟨w.heap.size, 1, none⟩ = some v) ∧
    (∀ x os, (grow (redrawn W x) os).cell? ⟨w.heap.size + 1, 0, none⟩ = some (.int .i64 f)) ∧ (∀ x os, (grow (redrawn W x) os).cell? ⟨w.heap.size + 1, 1, none⟩ = some (.int .i64 t)) :=
  ⟨cell_regrown (by simp [World.cell?_alloc_lt]), cell_regrown (by simp [World.cell?_alloc_lt]), cell_regrown (by simp), cell_regrown (by simp)⟩
set_option maxHeartbeats 1600000 in
theorem impl_IsHandle_any (s : Int) (v : Value) (xs : List Int) (f t : Int) (B : Nat) (w : World) (h : Sl w B v xs) (hB : B ≤ w.heap.size) (hf : -9223372036854775808 ≤ f ∧ f ≤ 9223372036854775807) :
    Calls Try.prog 20 #[.agg #[.int .i64 s, v], .agg #[.int .i64 f, .int .i64 t]] w fun e w' => e = .returned (.bool (okBr s xs && isH xs f t)) ∧ Below w.heap.size w w' := by
  obtain ⟨A, c, rfl, hl, hm, -⟩ := id h
  unfold maxLen at hm
  have hA : Below w.heap.size w ((w.alloc (.cells #[.int .i64 s, .slice A xs.length c] 26)).alloc (.cells #[.int .i64 f, .int .i64 t] 39)) := al2 _ _ _
  obtain ⟨n0, n1, n2, n3⟩ := isH_facts w s f t (.slice A xs.length c)
  have hs : ∀ d os, Sl (grow (redrawn ((w.alloc (.cells #[.int .i64 s, .slice A xs.length c] 26)).alloc (.cells #[.int .i64 f, .int .i64 t] 39)) d) os) B (.slice A xs.length c) xs := fun d os => (h.below hA hB).below (below_regrown _ d os) (Nat.le_trans hB hA.size)
  have hz : ∀ d os, B ≤ (grow (redrawn ((w.alloc (.cells #[.int .i64 s, .slice A xs.length c] 26)).alloc (.cells #[.int .i64 f, .int .i64 t] 39)) d) os).heap.size := fun d os => Nat.le_trans (Nat.le_trans hB hA.size) (below_regrown _ d os).size
  have HS := Lib.hid hs
  have HZ := Lib.hid hz
  have HA := Lib.hid hA
  clear hs hz h hA
  obtain ⟨hf1, hf2⟩ := hf
  cases hok : okBr s xs
  · go_enter Try.func20, Try.ntmps20
    go_wp2
    refine wp_region_quiet_below (by kernel_rfl) (by kernel_rfl) ?_
    repeat (go_big_quiet_step (first | (go_at_call 28; exact Calls.regrown_of (is_below hok (impl_ValidBraid_any _ _ xs _ _ (HS.out _ _) (HZ.out _ _))))))
    refine wpQuiet_nil ?_
    intro _ hw'
    obtain ⟨⟨dq, osq⟩, hw''⟩ := hw'
    subst hw''
    go_wp2
    go_ret
    exact ⟨ret_bool (by simp), HA.out.trans ((below_regrown _ _ _).mono HA.out.size)⟩
  · cases hin : inR t 0 (xs.length - 1)
    · have HE := Lib.hid (show isH xs f t = false by simp [isH, hin])
      go_enter Try.func20, Try.ntmps20
      go_wp2
      refine wp_region_quiet_below (by kernel_rfl) (by kernel_rfl) ?_
      repeat (go_big_quiet_step (first | (go_at_call 28; exact Calls.regrown_of (is_below hok (impl_ValidBraid_any _ _ xs _ _ (HS.out _ _) (HZ.out _ _)))) | (go_at_call 45; exact Calls.regrown_same (is_same hin (within_any _ _ _ _)))))
      refine wpQuiet_nil ?_
      intro _ hw'
      obtain ⟨⟨dq, osq⟩, hw''⟩ := hw'
      subst hw''
      go_wp2
      go_ret
      exact ⟨ret_bool (by simp [HE.out]), HA.out.trans ((below_regrown _ _ _).mono HA.out.size)⟩
    · obtain ⟨t0, t1⟩ := inR_iff.1 hin
      obtain ⟨k, rfl⟩ : ∃ k : Nat, t = k := ⟨t.toNat, by omega⟩
      have hk : k < xs.length := by omega
      have HL := Lib.hid (fun x hx => okBr_mem hok x hx)
      by_cases hf0 : 0 ≤ f
      · have HE := Lib.hid (show isH xs f k = (hTo xs k == f) by simp [isH, hin, hf0]; rfl)
        have hq := hTo_bd xs k
        cases he : (hTo xs k == f)
        all_goals
          go_enter Try.func20, Try.ntmps20
          go_wp2
          refine wp_region_quiet_below (by kernel_rfl) (by kernel_rfl) ?_
          repeat (go_big_quiet_step (first | (go_at_call 28; exact Calls.regrown_of (is_below hok (impl_ValidBraid_any _ _ xs _ _ (HS.out _ _) (HZ.out _ _)))) | (go_at_call 45; exact Calls.regrown_same (is_same hin (within_any _ _ _ _))) | (go_at_call 46; exact Calls.regrown_of ((handleTo_any _ xs _ k _ (HS.out _ _) HL.out hk).mono fun e w' ⟨h1, n, h2⟩ => ⟨h1, h2 ▸ drewN_below _ _ _⟩))))
          refine wpQuiet_nil ?_
          intro _ hw'
          obtain ⟨⟨dq, osq⟩, hw''⟩ := hw'
          subst hw''
          go_wp2
          go_ret
          exact ⟨ret_bool (by rw [HE.out, he]; rfl), HA.out.trans ((below_regrown _ _ _).mono HA.out.size)⟩
      · have HE := Lib.hid (show isH xs f k = false by simp [isH, hf0])
        have hfb : decide (0 ≤ f) = false := by simp [hf0]
        go_enter Try.func20, Try.ntmps20
        go_wp2
        refine wp_region_quiet_below (by kernel_rfl) (by kernel_rfl) ?_
        repeat (go_big_quiet_step (first | (go_at_call 28; exact Calls.regrown_of (is_below hok (impl_ValidBraid_any _ _ xs _ _ (HS.out _ _) (HZ.out _ _)))) | (go_at_call 45; exact Calls.regrown_same (is_same hin (within_any _ _ _ _)))))
        refine wpQuiet_nil ?_
        intro _ hw'
        obtain ⟨⟨dq, osq⟩, hw''⟩ := hw'
        subst hw''
        go_wp2
        go_ret
        exact ⟨ret_bool (by simp [HE.out]), HA.out.trans ((below_regrown _ _ _).mono HA.out.size)⟩
end Go.Proofs.Ytcinnbkhnonijaa
