/-
  Contracts: FreeCore, of the program and of the reference.
-/
import Derived.Test.YtcoocjdkppdlmaaInv
import Derived.Deep.RegionHeld3
namespace Go.Proofs.Ytcoocjdkppdlmaa
set_option maxRecDepth 10000
open Go.RowKit

theorem coreN_eq {xs : List Int} {k : Nat} (hk : k ≤ xs.length) (h1 : ∀ j, j < k → coreP xs j = true) (h2 : coreP xs k = false) : coreN xs = k := stop_eq hk h1 fun _ => h2
theorem coreP_len {xs : List Int} {k : Nat} (h : coreP xs k = true) : 2 * k + 1 < xs.length := by simp [coreP] at h; exact h.1
theorem coreN_two {xs : List Int} {k : Nat} (h1 : ∀ j, j < k → coreP xs j = true) : 2 * k ≤ xs.length := by
  rcases Nat.eq_zero_or_pos k with rfl | hp
  · omega
  · have := coreP_len (h1 (k - 1) (by omega)); omega
/-- A part of a slice that reads as xs. -/
theorem sl_part {w : World} {B : Nat} {A : Option Addr} {c : Nat} {xs : List Int} (h : Sl w B (.slice A xs.length c) xs) (l m : Nat) (hlm : l ≤ m) (hm : m ≤ xs.length) :
    Sl w B (.slice (if c = l then A else A.map (·.add l)) (m - l) (c - l)) ((xs.drop l).take (m - l)) := by
  obtain ⟨A', c', e, h2, h3, h4, h5⟩ := h
  obtain ⟨rfl, rfl⟩ : A = A' ∧ c = c' := by injection e with e1 e2 e3; exact ⟨e1, e3⟩
  have hlen : ((xs.drop l).take (m - l)).length = m - l := by simp; omega
  refine ⟨_, _, by rw [hlen], by omega, by omega, fun hn => ?_, fun hp => ?_⟩
  · split at hn
    · omega
    · cases A with
      | none => have := h4 rfl; omega
      | some a => cases hn
  · rw [hlen] at hp ⊢
    obtain ⟨b, off, rfl, hb, hc⟩ := h5 (by omega)
    rw [if_neg (by omega)]
    refine ⟨b, off + l, by rw [Option.map_some, Addr.add_lit], hb, fun k hk => ?_⟩
    rw [Nat.add_assoc, hc (l + k) (by omega)]
    congr 2
    unfold gi
    simp only [List.getD_eq_getElem?_getD, List.getElem?_take, List.getElem?_drop]
    rw [if_pos hk]

set_option maxHeartbeats 1600000 in
theorem coreOf_any (v : Value) (xs : List Int) (B : Nat) (w : World) (h : Sl w B v xs) (hB : B ≤ w.heap.size) (hsz : xs.length ≤ 1000000) (hbd : ∀ x ∈ xs, -1000 ≤ x ∧ x ≤ 1000) :
    Calls Try.prog 76 #[v] w fun e w' => ∃ r0 r1, e = .returned (.tuple #[r0, r1]) ∧ St w' w.heap.size [ow r0 (coreA (red xs)), ow r1 (coreB (red xs))] ∧ Below w.heap.size w w' := by
  have hrl := red_len xs
  have HB := Lib.hid (show ∀ x ∈ red xs, -1000 ≤ x ∧ x ≤ 1000 from fun x hx => hbd x (red_mem hx))
  go_enter Try.func76, Try.ntmps76
  go_wp2_with fail
  refine (reduced_any _ xs B _ h hB hsz hbd).mono ?_
  rintro e w1 ⟨r, rfl, ho, hb⟩
  clear h hbd
  generalize hR : red xs = R at *
  have HR := Lib.hid hR
  clear hR
  have hs := ho.sl (Nat.le_refl _)
  obtain ⟨A, c, rfl, hl, hm, hn, hcells⟩ := id hs
  unfold maxLen at hm
  have HC := Lib.hid hcells
  clear hcells hn
  go_wp2_with fail
  go_loopw [5] (fun i wr => ∃ k : Nat, k ≤ R.length ∧ i = .int .i64 k ∧ (∀ j, j < k → coreP R j = true) ∧ ∃ n, wr = w1.drewN n) (fun i _ => R.length - (intOf i).toNat)
  case atStart => exact ⟨0, Nat.zero_le _, rfl, fun j hj => absurd hj (Nat.not_lt_zero _), 0, rfl⟩
  case round =>
    obtain ⟨k, hk, rfl, hgood, n, rfl⟩ := hrel
    have h2k := coreN_two hgood
    have HG := Lib.hid hgood
    clear hgood
    cases hP : coreP R k
    · have HN := Lib.hid (coreN_eq hk HG.out hP)
      by_cases h2k1 : 2 * k + 1 < R.length
      · obtain ⟨b, off, rfl, hbB, hcell⟩ := HC.out (by omega)
        have q1 := hcell k (by omega)
        have q2 := hcell (R.length - 1 - k) (by omega)
        obtain ⟨y1, y2⟩ := HB.out _ (gi_mem (show R.length - 1 - k < R.length by omega))
        have heb : (gi R k == -gi R (R.length - 1 - k)) = false := by simp [coreP] at hP; simpa using hP h2k1
        have g1 : (2 * (k : Int) + 1 < R.length) := by omega
        clear hcell hP
        go_wp2
        go_quiet (fail)
        go_wp2_with fail
        clear q1 q2 y1 y2 heb g1 HB
        generalize hA : (some (⟨b, off, none⟩ : Addr)) = A at *
        have s0 : Sl w1 w1.heap.size (.slice A k c) (R.take k) := by
          have := sl_part hs 0 k (by omega) (by omega)
          rw [show (if c = 0 then A else A.map (·.add 0)) = A by split <;> (cases A <;> rfl)] at this
          simpa using this
        have s9 := sl_part hs k (R.length - k) (by omega) (by omega)
        rw [show R.length - k - k = R.length - k - k from rfl] at s9
        have f0 : (0 : Int) ≤ k := by omega
        have f1 : (k : Int) ≤ c := by omega
        have f2 : (k : Int) ≤ R.length := by omega
        have f3 : (k : Int) ≤ (R.length : Int) - k := by omega
        have f4 : (R.length : Int) - k ≤ c := by omega
        have f5 : (0 : Int) ≤ (R.length : Int) - k := by omega
        have f7 : ((R.length : Int) - k).toNat = R.length - k := by omega
        have f6 : IntKind.i64.wrap ((R.length : Int) - k) = (R.length : Int) - k := IntWalk.i64_in _ (by omega)
        generalize hA9 : (if c = k then A else A.map (·.add k)) = A9 at s9
        go_region_held3 (fun w' => Below w1.heap.size w1 w') (first | assumption | exact (below_drewN (below_drewN (Below.refl _ _) _) _).drew)
          (first
            | (go_at_call 97; (with_reducible refine (cloneInts_any (.slice A k c) (R.take k) _ _ (s0.below (by first | assumption | exact below_drewN (Below.refl _ _) _) (Nat.le_refl _)) (Below.size (w := w1) (B := w1.heap.size) (by first | assumption | exact below_drewN (Below.refl _ _) _)) (by simp; omega)).mono ?_); rintro e w2 ⟨r2, rfl, ho2, hb2⟩; have hS2 : Below w1.heap.size w1 w2 := Below.trans (by first | assumption | exact below_drewN (Below.refl _ _) _) (hb2.mono (Below.size (w := w1) (B := w1.heap.size) (by first | assumption | exact below_drewN (Below.refl _ _) _))))
            | (go_at_call 97; (with_reducible refine (cloneInts_any (.slice A9 (R.length - k - k) (c - k)) ((R.drop k).take (R.length - k - k)) _ _ (s9.below (by assumption) (Nat.le_refl _)) (Below.size (w := w1) (B := w1.heap.size) (by assumption)) (by simp; omega)).mono ?_); rintro e w3 ⟨r3, rfl, ho3, hb3⟩; have hS3 : Below w1.heap.size w1 w3 := Below.trans (by assumption) (hb3.mono (Below.size (w := w1) (B := w1.heap.size) (by assumption)))))
        have hZ := (((st_ow ho2 hb2).join hb3 (st_ow ho3 hb3)).mono (Nat.le_trans hb.size (Below.size (w := w1) (B := w1.heap.size) (by first | assumption | exact below_drewN (Below.refl _ _) _))))
        obtain ⟨A2, c2, rfl, -⟩ := id (ho2.sl (Nat.le_refl _))
        obtain ⟨A3, c3, rfl, -⟩ := id (ho3.sl (Nat.le_refl _))
        go_wp2
        go_ret2
        refine ⟨_, _, rfl, ?_, hb.trans (Below.mono (by assumption) hb.size)⟩
        have hA1 : coreA (red xs) = R.take k := by rw [HR.out, coreA, HN.out]
        have hB1 : coreB (red xs) = (R.drop k).take (R.length - k - k) := by rw [HR.out, coreB, HN.out, show R.length - 2 * k = R.length - k - k by omega]
        rw [hA1, hB1]
        exact hZ
      · clear hP
        have g1 : decide (2 * (k : Int) + 1 < R.length) = false := by simp; omega
        go_wp2
        go_quiet (fail)
        go_wp2_with fail
        have s0 : Sl w1 w1.heap.size (.slice A k c) (R.take k) := by
          have := sl_part hs 0 k (by omega) (by omega)
          rw [show (if c = 0 then A else A.map (·.add 0)) = A by split <;> (cases A <;> rfl)] at this
          simpa using this
        have s9 := sl_part hs k (R.length - k) (by omega) (by omega)
        rw [show R.length - k - k = R.length - k - k from rfl] at s9
        have f0 : (0 : Int) ≤ k := by omega
        have f1 : (k : Int) ≤ c := by omega
        have f2 : (k : Int) ≤ R.length := by omega
        have f3 : (k : Int) ≤ (R.length : Int) - k := by omega
        have f4 : (R.length : Int) - k ≤ c := by omega
        have f5 : (0 : Int) ≤ (R.length : Int) - k := by omega
        have f7 : ((R.length : Int) - k).toNat = R.length - k := by omega
        have f6 : IntKind.i64.wrap ((R.length : Int) - k) = (R.length : Int) - k := IntWalk.i64_in _ (by omega)
        generalize hA9 : (if c = k then A else A.map (·.add k)) = A9 at s9
        go_region_held3 (fun w' => Below w1.heap.size w1 w') (first | assumption | exact (below_drewN (below_drewN (Below.refl _ _) _) _).drew)
          (first
            | (go_at_call 97; (with_reducible refine (cloneInts_any (.slice A k c) (R.take k) _ _ (s0.below (by first | assumption | exact below_drewN (Below.refl _ _) _) (Nat.le_refl _)) (Below.size (w := w1) (B := w1.heap.size) (by first | assumption | exact below_drewN (Below.refl _ _) _)) (by simp; omega)).mono ?_); rintro e w2 ⟨r2, rfl, ho2, hb2⟩; have hS2 : Below w1.heap.size w1 w2 := Below.trans (by first | assumption | exact below_drewN (Below.refl _ _) _) (hb2.mono (Below.size (w := w1) (B := w1.heap.size) (by first | assumption | exact below_drewN (Below.refl _ _) _))))
            | (go_at_call 97; (with_reducible refine (cloneInts_any (.slice A9 (R.length - k - k) (c - k)) ((R.drop k).take (R.length - k - k)) _ _ (s9.below (by assumption) (Nat.le_refl _)) (Below.size (w := w1) (B := w1.heap.size) (by assumption)) (by simp; omega)).mono ?_); rintro e w3 ⟨r3, rfl, ho3, hb3⟩; have hS3 : Below w1.heap.size w1 w3 := Below.trans (by assumption) (hb3.mono (Below.size (w := w1) (B := w1.heap.size) (by assumption)))))
        have hZ := (((st_ow ho2 hb2).join hb3 (st_ow ho3 hb3)).mono (Nat.le_trans hb.size (Below.size (w := w1) (B := w1.heap.size) (by first | assumption | exact below_drewN (Below.refl _ _) _))))
        obtain ⟨A2, c2, rfl, -⟩ := id (ho2.sl (Nat.le_refl _))
        obtain ⟨A3, c3, rfl, -⟩ := id (ho3.sl (Nat.le_refl _))
        go_wp2
        go_ret2
        refine ⟨_, _, rfl, ?_, hb.trans (Below.mono (by assumption) hb.size)⟩
        have hA1 : coreA (red xs) = R.take k := by rw [HR.out, coreA, HN.out]
        have hB1 : coreB (red xs) = (R.drop k).take (R.length - k - k) := by rw [HR.out, coreB, HN.out, show R.length - 2 * k = R.length - k - k by omega]
        rw [hA1, hB1]
        exact hZ
    · have h2k1 := coreP_len hP
      have he : gi R k = -gi R (R.length - 1 - k) := by simp [coreP] at hP; exact hP.2
      obtain ⟨b, off, rfl, hbB, hcell⟩ := HC.out (by omega)
      have q1 := hcell k (by omega)
      have q2 := hcell (R.length - 1 - k) (by omega)
      obtain ⟨y1, y2⟩ := HB.out _ (gi_mem (show R.length - 1 - k < R.length by omega))
      have heb : (gi R k == -gi R (R.length - 1 - k)) = true := by simp [he]
      have g1 : (2 * (k : Int) + 1 < R.length) := by omega
      clear hcell he
      go_wp2
      go_quiet (fail)
      go_wp2
      go_roundw
      case rel =>
        refine ⟨k + 1, by omega, by go_num, fun j hj => ?_, _, rfl⟩
        by_cases hjk : j < k
        · exact HG.out j hjk
        · obtain rfl : j = k := by omega
          exact hP
      case measure => simp [intOf]; omega
set_option maxHeartbeats 1600000 in
theorem l05Core_any (v : Value) (R : List Int) (B : Nat) (w1 : World) (h : Sl w1 B v R) (hB : B ≤ w1.heap.size) (hsz : R.length ≤ 1000000) (hbd : ∀ x ∈ R, -1000 ≤ x ∧ x ≤ 1000) :
    Calls Try.prog 87 #[v] w1 fun e w' => ∃ r0 r1, e = .returned (.tuple #[r0, r1]) ∧ St w' w1.heap.size [ow r0 (coreA R), ow r1 (coreB R)] ∧ Below w1.heap.size w1 w' := by
  have HB := Lib.hid hbd
  have hs : Sl w1 w1.heap.size v R := h.mono hB
  have hb : Below w1.heap.size w1 w1 := Below.refl _ _
  clear h hbd
  have hrl : R.length ≤ R.length := Nat.le_refl _
  obtain ⟨A, c, rfl, hl, hm, hn, hcells⟩ := id hs
  unfold maxLen at hm
  have HC := Lib.hid hcells
  clear hcells hn
  go_enter Try.func87, Try.ntmps87
  go_wp2_with fail
  go_loopw [4] (fun i wr => ∃ k : Nat, k ≤ R.length ∧ i = .int .i64 k ∧ (∀ j, j < k → coreP R j = true) ∧ ∃ n, wr = w1.drewN n) (fun i _ => R.length - (intOf i).toNat)
  case atStart => exact ⟨0, Nat.zero_le _, rfl, fun j hj => absurd hj (Nat.not_lt_zero _), 0, rfl⟩
  case round =>
    obtain ⟨k, hk, rfl, hgood, n, rfl⟩ := hrel
    have h2k := coreN_two hgood
    have HG := Lib.hid hgood
    clear hgood
    cases hP : coreP R k
    · have HN := Lib.hid (coreN_eq hk HG.out hP)
      by_cases h2k1 : 2 * k + 1 < R.length
      · obtain ⟨b, off, rfl, hbB, hcell⟩ := HC.out (by omega)
        have q1 := hcell k (by omega)
        have q2 := hcell (R.length - 1 - k) (by omega)
        obtain ⟨y1, y2⟩ := HB.out _ (gi_mem (show R.length - 1 - k < R.length by omega))
        have heb : (gi R k == -gi R (R.length - 1 - k)) = false := by simp [coreP] at hP; simpa using hP h2k1
        have g1 : (2 * (k : Int) + 1 < R.length) := by omega
        clear hcell hP
        go_wp2
        go_quiet (fail)
        go_wp2_with fail
        clear q1 q2 y1 y2 heb g1 HB
        generalize hA : (some (⟨b, off, none⟩ : Addr)) = A at *
        have s0 : Sl w1 w1.heap.size (.slice A k c) (R.take k) := by
          have := sl_part hs 0 k (by omega) (by omega)
          rw [show (if c = 0 then A else A.map (·.add 0)) = A by split <;> (cases A <;> rfl)] at this
          simpa using this
        have s9 := sl_part hs k (R.length - k) (by omega) (by omega)
        rw [show R.length - k - k = R.length - k - k from rfl] at s9
        have f0 : (0 : Int) ≤ k := by omega
        have f1 : (k : Int) ≤ c := by omega
        have f2 : (k : Int) ≤ R.length := by omega
        have f3 : (k : Int) ≤ (R.length : Int) - k := by omega
        have f4 : (R.length : Int) - k ≤ c := by omega
        have f5 : (0 : Int) ≤ (R.length : Int) - k := by omega
        have f7 : ((R.length : Int) - k).toNat = R.length - k := by omega
        have f6 : IntKind.i64.wrap ((R.length : Int) - k) = (R.length : Int) - k := IntWalk.i64_in _ (by omega)
        generalize hA9 : (if c = k then A else A.map (·.add k)) = A9 at s9
        go_region_held3 (fun w' => Below w1.heap.size w1 w') (first | assumption | exact (below_drewN (below_drewN (Below.refl _ _) _) _).drew)
          (first
            | (go_at_call 104; (with_reducible refine (l00Own_any (.slice A k c) (R.take k) _ _ (s0.below (by first | assumption | exact below_drewN (Below.refl _ _) _) (Nat.le_refl _)) (Below.size (w := w1) (B := w1.heap.size) (by first | assumption | exact below_drewN (Below.refl _ _) _)) (by simp; omega)).mono ?_); rintro e w2 ⟨r2, rfl, ho2, hb2⟩; have hS2 : Below w1.heap.size w1 w2 := Below.trans (by first | assumption | exact below_drewN (Below.refl _ _) _) (hb2.mono (Below.size (w := w1) (B := w1.heap.size) (by first | assumption | exact below_drewN (Below.refl _ _) _))))
            | (go_at_call 104; (with_reducible refine (l00Own_any (.slice A9 (R.length - k - k) (c - k)) ((R.drop k).take (R.length - k - k)) _ _ (s9.below (by assumption) (Nat.le_refl _)) (Below.size (w := w1) (B := w1.heap.size) (by assumption)) (by simp; omega)).mono ?_); rintro e w3 ⟨r3, rfl, ho3, hb3⟩; have hS3 : Below w1.heap.size w1 w3 := Below.trans (by assumption) (hb3.mono (Below.size (w := w1) (B := w1.heap.size) (by assumption)))))
        have hZ := (((st_ow ho2 hb2).join hb3 (st_ow ho3 hb3)).mono (Nat.le_trans hb.size (Below.size (w := w1) (B := w1.heap.size) (by first | assumption | exact below_drewN (Below.refl _ _) _))))
        obtain ⟨A2, c2, rfl, -⟩ := id (ho2.sl (Nat.le_refl _))
        obtain ⟨A3, c3, rfl, -⟩ := id (ho3.sl (Nat.le_refl _))
        go_wp2
        go_ret2
        refine ⟨_, _, rfl, ?_, hb.trans (Below.mono (by assumption) hb.size)⟩
        have hA1 : coreA R = R.take k := by rw [coreA, HN.out]
        have hB1 : coreB R = (R.drop k).take (R.length - k - k) := by rw [coreB, HN.out, show R.length - 2 * k = R.length - k - k by omega]
        rw [hA1, hB1]
        exact hZ
      · clear hP
        have g1 : decide (2 * (k : Int) + 1 < R.length) = false := by simp; omega
        go_wp2
        go_quiet (fail)
        go_wp2_with fail
        have s0 : Sl w1 w1.heap.size (.slice A k c) (R.take k) := by
          have := sl_part hs 0 k (by omega) (by omega)
          rw [show (if c = 0 then A else A.map (·.add 0)) = A by split <;> (cases A <;> rfl)] at this
          simpa using this
        have s9 := sl_part hs k (R.length - k) (by omega) (by omega)
        rw [show R.length - k - k = R.length - k - k from rfl] at s9
        have f0 : (0 : Int) ≤ k := by omega
        have f1 : (k : Int) ≤ c := by omega
        have f2 : (k : Int) ≤ R.length := by omega
        have f3 : (k : Int) ≤ (R.length : Int) - k := by omega
        have f4 : (R.length : Int) - k ≤ c := by omega
        have f5 : (0 : Int) ≤ (R.length : Int) - k := by omega
        have f7 : ((R.length : Int) - k).toNat = R.length - k := by omega
        have f6 : IntKind.i64.wrap ((R.length : Int) - k) = (R.length : Int) - k := IntWalk.i64_in _ (by omega)
        generalize hA9 : (if c = k then A else A.map (·.add k)) = A9 at s9
        go_region_held3 (fun w' => Below w1.heap.size w1 w') (first | assumption | exact (below_drewN (below_drewN (Below.refl _ _) _) _).drew)
          (first
            | (go_at_call 104; (with_reducible refine (l00Own_any (.slice A k c) (R.take k) _ _ (s0.below (by first | assumption | exact below_drewN (Below.refl _ _) _) (Nat.le_refl _)) (Below.size (w := w1) (B := w1.heap.size) (by first | assumption | exact below_drewN (Below.refl _ _) _)) (by simp; omega)).mono ?_); rintro e w2 ⟨r2, rfl, ho2, hb2⟩; have hS2 : Below w1.heap.size w1 w2 := Below.trans (by first | assumption | exact below_drewN (Below.refl _ _) _) (hb2.mono (Below.size (w := w1) (B := w1.heap.size) (by first | assumption | exact below_drewN (Below.refl _ _) _))))
            | (go_at_call 104; (with_reducible refine (l00Own_any (.slice A9 (R.length - k - k) (c - k)) ((R.drop k).take (R.length - k - k)) _ _ (s9.below (by assumption) (Nat.le_refl _)) (Below.size (w := w1) (B := w1.heap.size) (by assumption)) (by simp; omega)).mono ?_); rintro e w3 ⟨r3, rfl, ho3, hb3⟩; have hS3 : Below w1.heap.size w1 w3 := Below.trans (by assumption) (hb3.mono (Below.size (w := w1) (B := w1.heap.size) (by assumption)))))
        have hZ := (((st_ow ho2 hb2).join hb3 (st_ow ho3 hb3)).mono (Nat.le_trans hb.size (Below.size (w := w1) (B := w1.heap.size) (by first | assumption | exact below_drewN (Below.refl _ _) _))))
        obtain ⟨A2, c2, rfl, -⟩ := id (ho2.sl (Nat.le_refl _))
        obtain ⟨A3, c3, rfl, -⟩ := id (ho3.sl (Nat.le_refl _))
        go_wp2
        go_ret2
        refine ⟨_, _, rfl, ?_, hb.trans (Below.mono (by assumption) hb.size)⟩
        have hA1 : coreA R = R.take k := by rw [coreA, HN.out]
        have hB1 : coreB R = (R.drop k).take (R.length - k - k) := by rw [coreB, HN.out, show R.length - 2 * k = R.length - k - k by omega]
        rw [hA1, hB1]
        exact hZ
    · have h2k1 := coreP_len hP
      have he : gi R k = -gi R (R.length - 1 - k) := by simp [coreP] at hP; exact hP.2
      obtain ⟨b, off, rfl, hbB, hcell⟩ := HC.out (by omega)
      have q1 := hcell k (by omega)
      have q2 := hcell (R.length - 1 - k) (by omega)
      obtain ⟨y1, y2⟩ := HB.out _ (gi_mem (show R.length - 1 - k < R.length by omega))
      have heb : (gi R k == -gi R (R.length - 1 - k)) = true := by simp [he]
      have g1 : (2 * (k : Int) + 1 < R.length) := by omega
      clear hcell he
      go_wp2
      go_quiet (fail)
      go_wp2
      go_roundw
      case rel =>
        refine ⟨k + 1, by omega, by go_num, fun j hj => ?_, _, rfl⟩
        by_cases hjk : j < k
        · exact HG.out j hjk
        · obtain rfl : j = k := by omega
          exact hP
      case measure => simp [intOf]; omega
def fCoreA (n : Int) (xs : List Int) : List Int := if okFree n xs = true then coreA (red xs) else []
def fCoreB (n : Int) (xs : List Int) : List Int := if okFree n xs = true then coreB (red xs) else []
theorem fCoreA_len (n : Int) (xs : List Int) : (fCoreA n xs).length ≤ xs.length := by
  unfold fCoreA; split
  · have := red_len xs; simp [coreA]; omega
  · simp
theorem fCoreB_len (n : Int) (xs : List Int) : (fCoreB n xs).length ≤ xs.length := by
  unfold fCoreB; split
  · have := red_len xs; simp [coreB]; omega
  · simp
theorem two_rows {w w' : World} {r0 r1 : Value} {xs ys : List Int} (h : St w' w.heap.size [ow r0 xs, ow r1 ys]) : (∃ A c, r0 = .slice A xs.length c) ∧ ∃ A c, r1 = .slice A ys.length c := by
  obtain ⟨a, m, h1, h2, h3, b, m2, h4, h5, h6, h7⟩ := h
  obtain ⟨A, c, e, -⟩ := Ow.sl h2 (Nat.le_trans h4 (Nat.le_trans h6 h7))
  obtain ⟨A2, c2, e2, -⟩ := Ow.sl h5 h7
  exact ⟨⟨A, c, e⟩, A2, c2, e2⟩
theorem two_nil (w : World) (lo : Nat) (h : lo ≤ w.heap.size) : St w lo [ow (.slice none 0 0) [], ow (.slice none 0 0) []] :=
  ⟨lo, lo, Nat.le_refl _, Ow.nil _ _ _, Nat.le_refl _, lo, lo, Nat.le_refl _, Ow.nil _ _ _, Nat.le_refl _, h⟩
set_option maxHeartbeats 400000 in
theorem impl_FreeCore_any (v : Value) (xs : List Int) (B : Nat) (n : Int) (w : World) (h : Sl w B v xs) (hB : B ≤ w.heap.size) :
    Calls Try.prog 40 #[.int .i64 n, v] w fun e w' => ∃ r0 r1, e = .returned (.tuple #[r0, r1, .bool (okFree n xs)]) ∧ St w' w.heap.size [ow r0 (fCoreA n xs), ow r1 (fCoreB n xs)] ∧ Below w.heap.size w w' := by
  cases hok : okFree n xs
  · have HF := Lib.hid (show fCoreA n xs = [] by simp [fCoreA, hok])
    have HG := Lib.hid (show fCoreB n xs = [] by simp [fCoreB, hok])
    go_enter Try.func40, Try.ntmps40
    go_wp2_with (go_at_call 51; refine (impl_ValidFree_any _ xs B _ _ h hB).mono ?_; rintro e w1 ⟨rfl, hb⟩)
    go_ret3
    exact ⟨_, _, rfl, by rw [HF.out, HG.out]; exact two_nil _ _ hb.size, hb⟩
  · have HF := Lib.hid (show fCoreA n xs = coreA (red xs) by simp [fCoreA, hok])
    have HG := Lib.hid (show fCoreB n xs = coreB (red xs) by simp [fCoreB, hok])
    have HM := Lib.hid (okFree_mem hok)
    have hlen := (okFree_parts hok).2.2.1
    go_enter Try.func40, Try.ntmps40
    go_wp2_with fail
    refine (impl_ValidFree_any _ xs B _ _ h hB).mono ?_
    rintro e w1 ⟨rfl, hb⟩
    go_wp2_with fail
    refine (coreOf_any _ xs B _ (h.below hb hB) (Nat.le_trans hB hb.size) (by omega) (fun x hx => by have := HM.out x hx; omega)).mono ?_
    rintro e w2 ⟨r0, r1, rfl, ho, hb2⟩
    obtain ⟨⟨A0, c0, rfl⟩, A1, c1, rfl⟩ := two_rows ho
    go_wp2_with fail
    go_ret3
    exact ⟨_, _, rfl, by rw [HF.out, HG.out]; exact ho.mono hb.size, hb.trans (hb2.mono hb.size)⟩
end Go.Proofs.Ytcoocjdkppdlmaa
