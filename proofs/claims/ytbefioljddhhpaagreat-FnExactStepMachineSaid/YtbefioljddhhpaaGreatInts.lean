/-
  Contracts of the laws' own helpers on []int64: toInt64S copies, eqInt64S compares, markInt64S writes a count, heldInt64S reads it.
-/
import Derived.Test.YtbefioljddhhpaaGreatBase
namespace Go.Proofs.YtbefioljddhhpaaGreat
set_option maxRecDepth 10000
open Go.RowKit

set_option maxHeartbeats 400000 in
/-- eqInt64S of slices that read as xs and ys. -/
theorem eqInts_any (v1 v2 : Value) (xs ys : List Int) (B1 B2 : Nat) (w : World) (h1 : Sl w B1 v1 xs) (h2 : Sl w B2 v2 ys) :
    Calls Tryz.prog 33 #[v1, v2] w fun e w' => e = .returned (.bool (decide (xs = ys))) ∧ ∃ n, w' = w.drewN n := by
  obtain ⟨A1, c1, rfl, hl1, hm1, _, hc1⟩ := h1
  obtain ⟨A2, c2, rfl, hl2, hm2, _, hc2⟩ := h2
  unfold maxLen at hm1 hm2
  by_cases hlen : xs.length = ys.length
  · have hb : ((xs.length : Int) != (ys.length : Int)) = false := by rw [hlen]; simp
    have HL := Lib.hid hlen
    have HC1 := Lib.hid hc1
    have HC2 := Lib.hid hc2
    clear hlen hc1 hc2
    go_enter Tryz.func33, Tryz.ntmps33
    go_wp2
    go_loopw [5] (fun i wr => ∃ k : Nat, k ≤ xs.length ∧ i = .int .i64 k ∧ (∀ j, j < k → gi xs j = gi ys j) ∧ ∃ n, wr = w.drewN n) (fun i _ => xs.length - (intOf i).toNat)
    case atStart => exact ⟨0, Nat.zero_le _, rfl, fun j h => absurd h (Nat.not_lt_zero _), 0, rfl⟩
    case round =>
      obtain ⟨k, hk, rfl, heq, n, rfl⟩ := hrel
      by_cases hlt : k < xs.length
      · obtain ⟨b1, o1, rfl, hb1, hcell1⟩ := HC1.out (by omega)
        obtain ⟨b2, o2, rfl, hb2, hcell2⟩ := HC2.out (by have := HL.out; omega)
        have hlt2 : k < ys.length := by have := HL.out; omega
        have q1 := hcell1 k hlt
        have q2 := hcell2 k hlt2
        clear hcell1 hcell2
        have HE := Lib.hid heq
        clear heq
        by_cases hx : gi xs k = gi ys k
        · have hxb : (gi xs k != gi ys k) = false := by simp [hx]
          have HX := Lib.hid hx
          clear hx
          go_wp2
          go_quiet (fail)
          go_wp2
          go_roundw
          case rel =>
            refine ⟨k + 1, by omega, by go_num, fun j hj => ?_, _, rfl⟩
            by_cases hjk : j < k
            · exact HE.out j hjk
            · obtain rfl : j = k := by omega
              exact HX.out
          case measure => simp [intOf]; omega
        · have hxb : (gi xs k != gi ys k) = true := by simp [hx]
          have hne : ¬ xs = ys := fun e => hx (by rw [e])
          have hnb : decide (xs = ys) = false := by simp [hne]
          have HNB := Lib.hid hnb
          clear hx hne hnb
          go_wp2
          go_quiet (fail)
          go_wp2
          go_ret
          exact ⟨ret_bool HNB.out.symm, quiet_end _ _ _⟩
      · have HE := Lib.hid heq
        clear heq
        go_wp2
        go_ret
        have hxy : xs = ys := gi_ext HL.out fun j hj => HE.out j (by omega)
        exact ⟨ret_bool (by simp [hxy]), _, rfl⟩
  · have hb : ((xs.length : Int) != (ys.length : Int)) = true := by simp; omega
    have hne : decide (xs = ys) = false := by simp; exact fun e => hlen (by rw [e])
    have HNB := Lib.hid hne
    clear hlen hne hc1 hc2
    go_enter Tryz.func33, Tryz.ntmps33
    go_wp2
    go_ret
    exact ⟨ret_bool HNB.out.symm, 0, rfl⟩

theorem eqInts_yes {v1 v2 : Value} {xs ys : List Int} {B1 B2 : Nat} {w : World} (h1 : Sl w B1 v1 xs) (h2 : Sl w B2 v2 ys) (he : xs = ys) :
    Calls Tryz.prog 33 #[v1, v2] w fun e w' => e = .returned (.bool true) ∧ Below w.heap.size w w' :=
  (eqInts_any v1 v2 xs ys B1 B2 w h1 h2).mono fun _ _ ⟨h, n, hw⟩ => ⟨by rw [h]; simp [he], by rw [hw]; exact drewN_below w _ n⟩

/-- What toInt64S has written after k rounds. -/
def filled (xs : List Int) (k : Nat) : List Int := xs.take k ++ List.replicate (xs.length - k) 0
theorem filled_len (xs : List Int) (k : Nat) (h : k ≤ xs.length) : (filled xs k).length = xs.length := by simp [filled]; omega
theorem filled_zero (xs : List Int) : filled xs 0 = List.replicate xs.length 0 := by simp [filled]
theorem filled_all (xs : List Int) : filled xs xs.length = xs := by simp [filled]
theorem filled_set (xs : List Int) (k : Nat) (h : k < xs.length) : (filled xs k).set k (gi xs k) = filled xs (k + 1) := by
  unfold filled
  have hl : (xs.take k).length = k := by simp; omega
  rw [List.set_append_right _ _ (by omega), hl, Nat.sub_self]
  obtain ⟨m, hm⟩ : ∃ m, xs.length - k = m + 1 := ⟨xs.length - k - 1, by omega⟩
  rw [hm, List.replicate_succ, List.set_cons_zero, take_gi h, List.append_assoc, show xs.length - (k + 1) = m from by omega]
  rfl

set_option maxHeartbeats 400000 in
/-- toInt64S: a copy in new memory. -/
theorem toInts_any (v : Value) (xs : List Int) (B : Nat) (w : World) (h : Sl w B v xs) (hB : B ≤ w.heap.size) (hsz : xs.length ≤ 1048576) :
    Calls Tryz.prog 24 #[v] w fun e w' => ∃ r, e = .returned r ∧ Ow w' w.heap.size w'.heap.size r xs ∧ Below w.heap.size w w' := by
  obtain ⟨A, c, rfl, hl, hm, _, hc⟩ := h
  unfold maxLen at hm
  have HC := Lib.hid hc
  clear hc
  obtain ⟨i0, hi, hz0, hz1, hz2⟩ := info_parts i64_info
  have HI := Lib.hid hi
  have HZ := Lib.hid hz0
  clear hi hz0
  go_enter Tryz.func24, Tryz.ntmps24
  go_wp2_with (at_make; refine wpList_make_full _ rfl _ _ 25 rfl w.heap.size 2 i0 (.int .i64 0) 1 Tryz.underlying25 HI.out HZ.out hz1 _ _ _ _ xs.length rfl rfl rfl rfl (by rw [hz2]; omega) (by unfold maxLen; omega) (Nat.le_refl _) ?_)
  intro w1 hown hg1
  have hO : Ow w1 w.heap.size w1.heap.size (.slice (some ⟨w.heap.size, 0, none⟩) xs.length xs.length) (filled xs 0) := by
    refine Ow.of_own hown (filled_len xs 0 (Nat.zero_le _)).symm ?_
    rw [filled_zero, toList_madeCells_one]
    simp [vals]
  have hb1 : Below w.heap.size w w1 := (Below.refl _ _).grown hg1 (Nat.le_refl _) (by simp)
  clear hown hg1
  go_wp2
  go_loopw [4] (fun i wr => ∃ k : Nat, k ≤ xs.length ∧ i = .int .i64 k ∧ Ow wr w.heap.size wr.heap.size (.slice (some ⟨w.heap.size, 0, none⟩) xs.length xs.length) (filled xs k) ∧ Below w.heap.size w wr) (fun i _ => xs.length - (intOf i).toNat)
  case atStart => exact ⟨0, Nat.zero_le _, rfl, hO, hb1⟩
  case round =>
    obtain ⟨k, hk, rfl, hO, hb⟩ := hrel
    by_cases hlt : k < xs.length
    · obtain ⟨b, off, rfl, hbB, hcell⟩ := HC.out (by omega)
      have q1 : wr.cell? ⟨b, off + k, none⟩ = some (.int .i64 (gi xs k)) := by rw [hb.cell (by simp only; omega)]; exact hcell k hlt
      obtain ⟨g, cap, hv, hlo, hhi, q2, q3, hO2, hch⟩ := hO.set_ k (by rw [filled_len xs k hk]; exact hlt) (gi xs k)
      obtain rfl : w.heap.size = g := by injection hv with hv _ _; injection hv with hv; injection hv
      have HO2 := Lib.hid hO2
      have HCH := Lib.hid hch
      clear hcell hv hO2 hch
      go_wp2
      go_roundw
      case rel =>
        refine ⟨k + 1, by omega, by go_num, ?_, hb.trans (HCH.out.below (Nat.le_refl _) hb.size)⟩
        have := HO2.out
        rw [filled_set xs k hlt] at this
        exact this.mono (Nat.le_refl _) HCH.out.size
      case measure => simp [intOf]; omega
    · obtain rfl : k = xs.length := by omega
      rw [filled_all] at hO
      go_wp2
      go_ret
      exact ⟨_, rfl, hO, hb⟩

/-- What markInt64S leaves: the numbers from k on. -/
def countFrom (k : Int) : Nat → List Int
  | 0 => []
  | n + 1 => countFrom k n ++ [k + n]
theorem countFrom_len (k : Int) (n : Nat) : (countFrom k n).length = n := by
  induction n with
  | zero => rfl
  | succ n ih => simp [countFrom, ih]
theorem countFrom_gi (k : Int) (n j : Nat) (h : j < n) : gi (countFrom k n) j = k + j := by
  induction n with
  | zero => omega
  | succ n ih =>
    unfold gi countFrom
    rw [List.getD_eq_getElem?_getD]
    by_cases hj : j < n
    · rw [List.getElem?_append_left (by rw [countFrom_len]; exact hj), ← List.getD_eq_getElem?_getD]
      exact ih hj
    · obtain rfl : j = n := by omega
      rw [List.getElem?_append_right (by rw [countFrom_len]; exact Nat.le_refl _), countFrom_len]
      simp
/-- A list whose first k elements have been marked. -/
def marked (c : Int) (xs : List Int) (k : Nat) : List Int := countFrom c k ++ xs.drop k
theorem marked_len (c : Int) (xs : List Int) (k : Nat) (h : k ≤ xs.length) : (marked c xs k).length = xs.length := by simp [marked, countFrom_len]; omega
theorem marked_all (c : Int) (xs : List Int) : marked c xs xs.length = countFrom c xs.length := by simp [marked]
theorem marked_set (c : Int) (xs : List Int) (k : Nat) (h : k < xs.length) : (marked c xs k).set k (c + k) = marked c xs (k + 1) := by
  unfold marked
  rw [List.set_append_right _ _ (by rw [countFrom_len]; exact Nat.le_refl _), countFrom_len, Nat.sub_self, drop_gi h, List.set_cons_zero]
  simp [countFrom]

set_option maxHeartbeats 400000 in
/-- markInt64S over a row of the call's own. -/
theorem markInts_any (v : Value) (xs : List Int) (lo hi : Nat) (c : Int) (w : World) (h : Ow w lo hi v xs) (hsz : xs.length ≤ 67108864) (hc0 : 0 ≤ c) (hc1 : c ≤ 1073741824) :
    Calls Tryz.prog 37 #[v, .int .i64 c] w fun e w' => e = .returned (.int .i64 (c + xs.length)) ∧ Ow w' lo hi v (countFrom c xs.length) ∧ Chg lo hi w w' := by
  obtain ⟨A, cap, rfl, hl, hm, _, hcells⟩ := h.sl (Nat.le_refl _)
  unfold maxLen at hm
  clear hcells
  go_enter Tryz.func37, Tryz.ntmps37
  go_wp2
  go_loopw [1, 5] (fun x i wr => ∃ k : Nat, k ≤ xs.length ∧ i = .int .i64 k ∧ x = .int .i64 (c + k) ∧ Ow wr lo hi (.slice A xs.length cap) (marked c xs k) ∧ Chg lo hi w wr) (fun _ i _ => xs.length - (intOf i).toNat)
  case atStart => exact ⟨0, Nat.zero_le _, rfl, by simp, h, Chg.refl _ _ _⟩
  case round =>
    obtain ⟨k, hk, rfl, rfl, hO, hb⟩ := hrel
    by_cases hlt : k < xs.length
    · obtain ⟨g, cap', hv, hlo, hhi, q2, q3, hO2, hch⟩ := hO.set_ k (by rw [marked_len c xs k hk]; exact hlt) (c + k)
      obtain ⟨rfl, rfl⟩ : A = some ⟨g, 0, none⟩ ∧ cap = cap' := by injection hv with h1 h2 h3; exact ⟨h1, h3⟩
      have HO2 := Lib.hid hO2
      have HCH := Lib.hid hch
      clear hv hO2 hch
      go_wp2
      go_roundw
      case rel =>
        refine ⟨k + 1, by omega, by go_num, by go_num, ?_, hb.trans HCH.out⟩
        have := HO2.out
        rw [marked_set c xs k hlt] at this
        exact this
      case measure => simp [intOf]; omega
    · obtain rfl : k = xs.length := by omega
      rw [marked_all] at hO
      go_wp2
      go_ret
      exact ⟨rfl, hO, hb⟩

set_option maxHeartbeats 400000 in
/-- heldInt64S over numbers that count from c on. -/
theorem heldInts_any (v : Value) (n : Nat) (B : Nat) (c : Int) (w : World) (h : Sl w B v (countFrom c n)) (hsz : n ≤ 67108864) (hc0 : 0 ≤ c) (hc1 : c ≤ 1073741824) :
    Calls Tryz.prog 41 #[v, .int .i64 c] w fun e w' => e = .returned (.int .i64 (c + n)) ∧ w = w' := by
  obtain ⟨A, cap, rfl, hl, hm, _, hcells⟩ := h
  rw [countFrom_len] at hl hcells ⊢
  unfold maxLen at hm
  have HC := Lib.hid hcells
  clear hcells
  go_enter Tryz.func41, Tryz.ntmps41
  go_wp2
  go_loop [1, 5] (fun x i => ∃ k : Nat, k ≤ n ∧ i = .int .i64 k ∧ x = .int .i64 (c + k)) (fun _ i => n - (intOf i).toNat)
  case atStart => exact ⟨0, Nat.zero_le _, rfl, by simp⟩
  case round =>
    obtain ⟨k, hk, rfl, rfl⟩ := hrel
    by_cases hlt : k < n
    · obtain ⟨b, off, rfl, hbB, hcell⟩ := HC.out (by omega)
      have q1 := hcell k hlt
      rw [countFrom_gi c n k hlt] at q1
      clear hcell
      go_wp2
      go_round
      case rel => exact ⟨k + 1, by omega, by go_num, by go_num⟩
      case measure => simp [intOf]; omega
    · obtain rfl : k = n := by omega
      go_wp2
      go_ret
      exact ⟨rfl, rfl⟩

theorem heldInts_quiet {v : Value} {n : Nat} {B : Nat} {c : Int} {w : World} (h : Sl w B v (countFrom c n)) (hsz : n ≤ 67108864) (hc0 : 0 ≤ c) (hc1 : c ≤ 1073741824) :
    Calls Tryz.prog 41 #[v, .int .i64 c] w fun e w' => e = .returned (.int .i64 (c + n)) ∧ Below w.heap.size w w' :=
  (heldInts_any v n B c w h hsz hc0 hc1).mono fun _ _ ⟨h, hw⟩ => ⟨h, by rw [← hw]; exact Below.refl _ _⟩
end Go.Proofs.YtbefioljddhhpaaGreat
