/-
  Contracts: the ends of a handle, the first handle (the reference's functions); FirstHandle of both.
-/
import Derived.Test.YtcinnbkhnonijaaHnd2
namespace Go.Proofs.Ytcinnbkhnonijaa
set_option maxRecDepth 10000
open Go.RowKit Go.Sort

theorem isH_spec {xs : List Int} {f t : Int} (hb : Lt xs) : (inR f 0 (xs.length - 1) && (inR t (f + 1) (xs.length - 1) && endsH xs f.toNat t.toNat)) = isH xs f t := by
  cases h1 : inR f 0 (xs.length - 1)
  · have h1' := inR_out h1
    rw [Bool.false_and, isH]
    symm
    rw [← Bool.not_eq_true]
    intro h
    simp only [Bool.and_eq_true, decide_eq_true_eq] at h
    obtain ⟨⟨h2, h3⟩, h4⟩ := h
    have h2' := inR_iff.1 h2
    have := hTo_bd xs t.toNat
    omega
  · have h1' := inR_iff.1 h1
    cases h2 : inR t (f + 1) (xs.length - 1)
    · have h2' := inR_out h2
      simp only [Bool.true_and, Bool.false_and]
      symm
      rw [← Bool.not_eq_true, isH]
      intro h
      simp only [Bool.and_eq_true, decide_eq_true_eq] at h
      obtain ⟨⟨h3, h4⟩, h5⟩ := h
      have h3' := inR_iff.1 h3
      have := hTo_bd xs t.toNat
      omega
    · have h2' := inR_iff.1 h2
      simp only [Bool.true_and]
      have ht : t.toNat < xs.length := by omega
      rw [ends_to (hb _ (gi_mem ht)).1 (by omega), isH, inR_yes (by omega) (by omega), decide_eq_true h1'.1]
      simp only [Bool.true_and]
      rw [Int.toNat_of_nonneg h1'.1]
set_option maxHeartbeats 1600000 in
theorem l06First_any (v : Value) (xs : List Int) (B : Nat) (w : World) (h : Sl w B v xs) (hB : B ≤ w.heap.size) (hbd : Lt xs) :
    Calls Try.prog 38 #[v] w fun e w' => e = .returned (.tuple #[.agg #[.int .i64 (hF xs), .int .i64 (hT xs)], .bool (hOk xs)]) ∧ Below w.heap.size w w' := by
  obtain ⟨A, c, rfl, hl, hm, -⟩ := id h
  unfold maxLen at hm
  have HS := Lib.hid (h.below (al1 w (.cells #[.int .i64 0, .int .i64 0] 39)) hB)
  have HB := Lib.hid hbd
  clear hbd h
  go_enter Try.func38, Try.ntmps38
  go_wp2
  go_loopw [4] (fun i wr => ∃ m : Nat, 1 ≤ m ∧ i = .int .i64 m ∧ (∀ j, j < m → hTo xs j < 0) ∧ ∃ n, wr = (w.alloc (.cells #[.int .i64 0, .int .i64 0] 39)).drewN n) (fun i _ => xs.length - (intOf i).toNat)
  case atStart => exact ⟨1, Nat.le_refl _, by go_num, fun j hj => by have := hTo_bd xs j; omega, 0, rfl⟩
  case round =>
    obtain ⟨m, hm1, rfl, he, n, rfl⟩ := hrel
    have HE := Lib.hid he
    clear he
    by_cases hlt : m < xs.length
    · obtain ⟨A2, c2, e2, -, -, -, hcells⟩ := HS.out
      obtain ⟨b, off, e3, hbB, hcell⟩ := hcells (by omega)
      obtain ⟨x0, x1, x2⟩ := HB.out _ (gi_mem hlt)
      have hbd1 : 0 < ab (gi xs m) ∧ ab (gi xs m) ≤ 11 := by unfold ab; omega
      subst e3
      injection e2 with e2 _ e4
      subst e2 e4
      have q0 := hcell m hlt
      have HC := Lib.hid hcell
      clear hcells hcell
      go_wp2_with (go_at_call 61; refine (l03Abs_any _ _ (by omega) (by omega)).mono ?_; rintro e w' ⟨rfl, rfl⟩)
      go_loopw [6] (fun i wr => ∃ a : Nat, a ≤ m ∧ i = .int .i64 ((a : Int) - 1) ∧ hTo xs m = hSeek xs (gi xs m) a ∧ ∃ n, wr = (w.alloc (.cells #[.int .i64 0, .int .i64 0] 39)).drewN n) (fun i _ => (intOf i + 1).toNat)
      case atStart => exact ⟨m, Nat.le_refl _, by go_num, rfl, _, rfl⟩
      case round =>
        obtain ⟨a, ham, rfl, hk, n2, rfl⟩ := hrel
        cases a with
        | zero =>
          have HK := Lib.hid (hk.trans (show hSeek xs (gi xs m) 0 = -1 from rfl))
          clear hk
          go_wp2
          go_roundw
          case rel =>
            refine ⟨m + 1, by omega, by go_num, fun j hj => ?_, ⟨_, rfl⟩⟩
            by_cases hjk : j < m
            · exact HE.out j hjk
            · obtain rfl : j = m := by omega
              have := HK.out
              omega
          case measure => simp [intOf]; omega
        | succ a =>
          rw [show (((a + 1 : Nat) : Int) - 1) = a by omega]
          have halt : a < xs.length := by omega
          have q1 := HC.out a halt
          obtain ⟨y0, y1, y2⟩ := HB.out _ (gi_mem halt)
          by_cases h1 : ab (gi xs a) = ab (gi xs m)
          · have h1b : (ab (gi xs a) != ab (gi xs m)) = false := by simp [h1]
            by_cases h2 : gi xs a = -gi xs m
            · have h2b : (gi xs a == -gi xs m) = true := by simp [h2]
              have HK := Lib.hid (hk.trans (show hSeek xs (gi xs m) (a + 1) = a by rw [hSeek, if_pos h1, if_neg (by omega)]))
              have HF := Lib.hid (firstT_some hlt HE.out (by have := HK.out; omega))
              clear hk h1 h2
              go_wp2_with (go_at_call 61; refine (l03Abs_any _ _ (by omega) (by omega)).mono ?_; rintro e w' ⟨rfl, rfl⟩)
              go_quiet (fail)
              go_wp2
              go_returns
              exact ⟨by rw [hF, hT, hOk, HF.out]; simp only [HK.out]; rfl, set_below (Nat.le_refl _) (set_below (Nat.le_refl _) (below_drewN (al1 _ _) _))⟩
            · have h2b : (gi xs a == -gi xs m) = false := by simp [h2]
              have HK := Lib.hid (hk.trans (show hSeek xs (gi xs m) (a + 1) = -1 by rw [hSeek, if_pos h1, if_pos (by unfold ab at h1; omega)]))
              clear hk h1 h2
              go_wp2_with (go_at_call 61; refine (l03Abs_any _ _ (by omega) (by omega)).mono ?_; rintro e w' ⟨rfl, rfl⟩)
              go_quiet (fail)
              go_wp2
              go_roundw
              case rel =>
                refine ⟨m + 1, by omega, by go_num, fun j hj => ?_, ⟨_, rfl⟩⟩
                by_cases hjk : j < m
                · exact HE.out j hjk
                · obtain rfl : j = m := by omega
                  have := HK.out
                  omega
              case measure => simp [intOf]; omega
          · have h1b : (ab (gi xs a) != ab (gi xs m)) = true := by simp [h1]
            by_cases h2 : ab (gi xs a) = ab (gi xs m) - 1
            · have h2b : (ab (gi xs a) != ab (gi xs m) - 1) = false := by simp [h2]
              have h3b : (gi xs a == -gi xs m) = false := by unfold ab at h1; simp; omega
              have HK := Lib.hid (hk.trans (show hSeek xs (gi xs m) (a + 1) = -1 by rw [hSeek, if_neg h1, if_pos h2]))
              clear hk h1 h2
              go_wp2_with (go_at_call 61; refine (l03Abs_any _ _ (by omega) (by omega)).mono ?_; rintro e w' ⟨rfl, rfl⟩)
              go_quiet (fail)
              go_wp2
              go_roundw
              case rel =>
                refine ⟨m + 1, by omega, by go_num, fun j hj => ?_, ⟨_, rfl⟩⟩
                by_cases hjk : j < m
                · exact HE.out j hjk
                · obtain rfl : j = m := by omega
                  have := HK.out
                  omega
              case measure => simp [intOf]; omega
            · have h2b : (ab (gi xs a) != ab (gi xs m) - 1) = true := by simp [h2]
              have HK := Lib.hid (hk.trans (show hSeek xs (gi xs m) (a + 1) = hSeek xs (gi xs m) a by rw [hSeek, if_neg h1, if_neg h2]))
              clear hk h1 h2
              go_wp2_with (go_at_call 61; refine (l03Abs_any _ _ (by omega) (by omega)).mono ?_; rintro e w' ⟨rfl, rfl⟩)
              go_roundw
              case rel => exact ⟨a, by omega, by go_num, HK.out, ⟨_, rfl⟩⟩
              case measure => simp [intOf]
    · have HF := Lib.hid (firstT_none fun j hj => HE.out j (by omega))
      go_wp2
      go_returns
      exact ⟨by rw [hF, hT, hOk, HF.out]; rfl, set_below (Nat.le_refl _) (set_below (Nat.le_refl _) (below_drewN (al1 _ _) _))⟩
theorem braid_cells (w : World) (s : Int) (v : Value) (o : Obj) : ((w.alloc (.cells #[.int .i64 s, v] 26)).alloc o).cell? ⟨w.heap.size, 0, none⟩ = some (.int .i64 s) ∧ ((w.alloc (.cells #[.int .i64 s, v] 26)).alloc o).cell? ⟨w.heap.size, 1, none⟩ = some v :=
  ⟨by simp [World.cell?_alloc_lt], by simp [World.cell?_alloc_lt]⟩
end Go.Proofs.Ytcinnbkhnonijaa
