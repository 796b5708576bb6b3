/-
  Contracts: the ends of a handle, the first handle (the reference's functions); FirstHandle of both.
-/
import Derived.Test.YtphbmdoeaebhnaaHnd2
namespace Go.Proofs.Ytphbmdoeaebhnaa
open Go.RowKit Go.Sort

theorem isH_spec {xs : List Int} {f t : Int} (hb : Lt xs) : (inR f 0 (xs.length - 1) && (inR t (f + 1) (xs.length - 1) && endsH xs f.toNat t.toNat)) = isH xs f t := by
  cases h1 : inR f 0 (xs.length - 1)
  · have h1' := inR_out h1
    rw [Bool.false_and, isH]
    symm
    rw [← Bool.not_eq_true]
    intro h
    simp only [Bool.and_eq_true, decide_eq_true_eq] at h
    obtain ⟨⟨h2, h3⟩, h4⟩ := h
    have h2' := inR_iff.1 h2
    have := hTo_bd xs t.toNat
    omega
  · have h1' := inR_iff.1 h1
    cases h2 : inR t (f + 1) (xs.length - 1)
    · have h2' := inR_out h2
      simp only [Bool.true_and, Bool.false_and]
      symm
      rw [← Bool.not_eq_true, isH]
      intro h
      simp only [Bool.and_eq_true, decide_eq_true_eq] at h
      obtain ⟨⟨h3, h4⟩, h5⟩ := h
      have h3' := inR_iff.1 h3
      have := hTo_bd xs t.toNat
      omega
    · have h2' := inR_iff.1 h2
      simp only [Bool.true_and]
      have ht : t.toNat < xs.length := by omega
      rw [ends_to (hb _ (gi_mem ht)).1 (by omega), isH, inR_yes (by omega) (by omega), decide_eq_true h1'.1]
      simp only [Bool.true_and]
      rw [Int.toNat_of_nonneg h1'.1]
set_option maxHeartbeats 1600000 in
theorem l06Ends_any (v : Value) (xs : List Int) (B : Nat) (f t : Nat) (w : World) (h : Sl w B v xs) (hbd : Lt xs) (hft : f < t) (ht : t < xs.length) :
    Calls Try.prog 86 #[v, .int .i64 f, .int .i64 t] w fun e w' => e = .returned (.bool (endsH xs f t)) ∧ ∃ n, w' = w.drewN n := by
  obtain ⟨A, c, rfl, hl, hm, _, hcells⟩ := h
  unfold maxLen at hm
  obtain ⟨b, off, rfl, hbB, hcell⟩ := hcells (by omega)
  have q0 := hcell t ht
  have q1 := hcell f (by omega)
  have HC := Lib.hid hcell
  have HB := Lib.hid hbd
  obtain ⟨x0, x1, x2⟩ := hbd _ (gi_mem ht)
  obtain ⟨y0, y1, y2⟩ := hbd _ (gi_mem (show f < xs.length by omega))
  have hbd1 : 0 < ab (gi xs t) ∧ ab (gi xs t) ≤ 11 := by unfold ab; omega
  clear hcells hcell hbd
  by_cases he : gi xs f = -gi xs t
  · have heb : (gi xs f != -gi xs t) = false := by simp [he]
    have HE0 := Lib.hid he
    clear he
    go_enter Try.func86, Try.ntmps86
    go_wp2_with (go_at_call 88; refine (l03Abs_any _ _ (by omega) (by omega)).mono ?_; rintro e w' ⟨rfl, rfl⟩)
    go_quiet (fail)
    go_wp2
    go_loopw [8] (fun i wr => ∃ m : Nat, f < m ∧ m ≤ t ∧ i = .int .i64 m ∧ (∀ j, f < j → j < m → ab (gi xs j) ≠ ab (gi xs t) ∧ ab (gi xs j) ≠ ab (gi xs t) - 1) ∧ ∃ n, wr = w.drewN n) (fun i _ => t - (intOf i).toNat)
    case atStart => exact ⟨f + 1, by omega, by omega, by go_num, fun j _ _ => by omega, _, rfl⟩
    case round =>
      obtain ⟨m, hm1, hm2, rfl, hg, n, rfl⟩ := hrel
      have HG := Lib.hid hg
      clear hg
      by_cases hlt : m < t
      · have hmx : m < xs.length := by omega
        have q2 := HC.out m hmx
        obtain ⟨z0, z1, z2⟩ := HB.out _ (gi_mem hmx)
        by_cases h1 : ab (gi xs m) = ab (gi xs t)
        · have h1b : (ab (gi xs m) == ab (gi xs t)) = true := by simp [h1]
          have HE := Lib.hid (show endsH xs f t = false by rw [← Bool.not_eq_true, endsH_iff]; exact fun h => (h.2 m hm1 hlt).1 h1)
          clear h1
          go_wp2_with (go_at_call 88; refine (l03Abs_any _ _ (by omega) (by omega)).mono ?_; rintro e w' ⟨rfl, rfl⟩)
          go_ret
          exact ⟨ret_bool HE.out.symm, _, rfl⟩
        · have h1b : (ab (gi xs m) == ab (gi xs t)) = false := by simp [h1]
          by_cases h2 : ab (gi xs m) = ab (gi xs t) - 1
          · have h2b : (ab (gi xs m) == ab (gi xs t) - 1) = true := by simp [h2]
            have HE := Lib.hid (show endsH xs f t = false by rw [← Bool.not_eq_true, endsH_iff]; exact fun h => (h.2 m hm1 hlt).2 h2)
            clear h1 h2
            go_wp2_with (go_at_call 88; refine (l03Abs_any _ _ (by omega) (by omega)).mono ?_; rintro e w' ⟨rfl, rfl⟩)
            go_ret
            exact ⟨ret_bool HE.out.symm, _, rfl⟩
          · have h2b : (ab (gi xs m) == ab (gi xs t) - 1) = false := by simp [h2]
            have HN := Lib.hid (And.intro h1 h2)
            clear h1 h2
            go_wp2_with (go_at_call 88; refine (l03Abs_any _ _ (by omega) (by omega)).mono ?_; rintro e w' ⟨rfl, rfl⟩)
            go_roundw
            case rel =>
              refine ⟨m + 1, by omega, by omega, by go_num, fun j hj1 hj2 => ?_, _, rfl⟩
              by_cases hjm : j < m
              · exact HG.out j hj1 hjm
              · obtain rfl : j = m := by omega
                exact HN.out
            case measure => simp [intOf]; omega
      · have HE := Lib.hid (show endsH xs f t = true by rw [endsH_iff]; exact ⟨HE0.out, fun i h1 h2 => HG.out i h1 (by omega)⟩)
        go_wp2
        go_ret
        exact ⟨ret_bool HE.out.symm, _, rfl⟩
  · have heb : (gi xs f != -gi xs t) = true := by simp [he]
    have HE := Lib.hid (show endsH xs f t = false by rw [← Bool.not_eq_true, endsH_iff]; exact fun h => he h.1)
    clear he
    go_enter Try.func86, Try.ntmps86
    go_wp2_with (go_at_call 88; refine (l03Abs_any _ _ (by omega) (by omega)).mono ?_; rintro e w' ⟨rfl, rfl⟩)
    go_quiet (fail)
    go_wp2
    go_ret
    exact ⟨ret_bool HE.out.symm, _, rfl⟩
set_option maxHeartbeats 1600000 in
theorem l06Is_any (v : Value) (xs : List Int) (B : Nat) (f t : Int) (w : World) (h : Sl w B v xs) (hB : B ≤ w.heap.size) (hbd : Lt xs) :
    Calls Try.prog 62 #[v, .agg #[.int .i64 f, .int .i64 t]] w fun e w' => e = .returned (.bool (isH xs f t)) ∧ Below w.heap.size w w' := by
  obtain ⟨A, c, rfl, hl, hm, -⟩ := id h
  unfold maxLen at hm
  have hs := h.below (al1 w (.cells #[.int .i64 f, .int .i64 t] 42)) hB
  have HS := Lib.hid hs
  have HB := Lib.hid hbd
  have HI := Lib.hid (isH_spec (f := f) (t := t) hbd)
  clear h hs hbd
  cases h1 : inR f 0 (xs.length - 1)
  · go_enter Try.func62, Try.ntmps62
    go_wp2_with (go_at_call 78; refine (l00In_any _ _ _ _).mono ?_; rintro e w' ⟨rfl, rfl⟩)
    go_ret
    exact ⟨ret_bool (by rw [← HI.out, h1]; rfl), al1 _ _⟩
  · obtain ⟨f0, f1⟩ := inR_iff.1 h1
    cases h2 : inR t (f + 1) (xs.length - 1)
    · go_enter Try.func62, Try.ntmps62
      go_wp2_with (go_at_call 78; refine (l00In_any _ _ _ _).mono ?_; rintro e w' ⟨rfl, rfl⟩)
      go_ret
      exact ⟨ret_bool (by rw [← HI.out, h1, h2]; rfl), al1 _ _⟩
    · obtain ⟨t0, t1⟩ := inR_iff.1 h2
      obtain ⟨a, rfl⟩ : ∃ a : Nat, f = a := ⟨f.toNat, by omega⟩
      obtain ⟨k, rfl⟩ : ∃ k : Nat, t = k := ⟨t.toNat, by omega⟩
      go_enter Try.func62, Try.ntmps62
      go_wp2_with (first | (go_at_call 78; refine (l00In_any _ _ _ _).mono ?_; rintro e w' ⟨rfl, rfl⟩) | (go_at_call 86; refine (l06Ends_any _ xs B a k _ HS.out HB.out (by omega) (by omega)).mono ?_; rintro e w' ⟨rfl, n, rfl⟩))
      go_ret
      exact ⟨ret_bool (by rw [← HI.out, h1, h2]; rfl), below_drewN (al1 _ _) _⟩
set_option maxHeartbeats 1600000 in
theorem l06First_any (v : Value) (xs : List Int) (B : Nat) (w : World) (h : Sl w B v xs) (hB : B ≤ w.heap.size) (hbd : Lt xs) :
    Calls Try.prog 68 #[v] w fun e w' => e = .returned (.tuple #[.agg #[.int .i64 (hF xs), .int .i64 (hT xs)], .bool (hOk xs)]) ∧ Below w.heap.size w w' := by
  obtain ⟨A, c, rfl, hl, hm, -⟩ := id h
  unfold maxLen at hm
  have HS := Lib.hid (h.below (al1 w (.cells #[.int .i64 0, .int .i64 0] 42)) hB)
  have HB := Lib.hid hbd
  clear hbd h
  go_enter Try.func68, Try.ntmps68
  go_wp2
  go_loopw [4] (fun i wr => ∃ m : Nat, 1 ≤ m ∧ i = .int .i64 m ∧ (∀ j, j < m → hTo xs j < 0) ∧ ∃ n, wr = (w.alloc (.cells #[.int .i64 0, .int .i64 0] 42)).drewN n) (fun i _ => xs.length - (intOf i).toNat)
  case atStart => exact ⟨1, Nat.le_refl _, by go_num, fun j hj => by have := hTo_bd xs j; omega, 0, rfl⟩
  case round =>
    obtain ⟨m, hm1, rfl, he, n, rfl⟩ := hrel
    have HE := Lib.hid he
    clear he
    by_cases hlt : m < xs.length
    · obtain ⟨A2, c2, e2, -, -, -, hcells⟩ := HS.out
      obtain ⟨b, off, e3, hbB, hcell⟩ := hcells (by omega)
      obtain ⟨x0, x1, x2⟩ := HB.out _ (gi_mem hlt)
      have hbd1 : 0 < ab (gi xs m) ∧ ab (gi xs m) ≤ 11 := by unfold ab; omega
      subst e3
      injection e2 with e2 _ e4
      subst e2 e4
      have q0 := hcell m hlt
      have HC := Lib.hid hcell
      clear hcells hcell
      go_wp2_with (go_at_call 88; refine (l03Abs_any _ _ (by omega) (by omega)).mono ?_; rintro e w' ⟨rfl, rfl⟩)
      go_loopw [6] (fun i wr => ∃ a : Nat, a ≤ m ∧ i = .int .i64 ((a : Int) - 1) ∧ hTo xs m = hSeek xs (gi xs m) a ∧ ∃ n, wr = (w.alloc (.cells #[.int .i64 0, .int .i64 0] 42)).drewN n) (fun i _ => (intOf i + 1).toNat)
      case atStart => exact ⟨m, Nat.le_refl _, by go_num, rfl, _, rfl⟩
      case round =>
        obtain ⟨a, ham, rfl, hk, n2, rfl⟩ := hrel
        cases a with
        | zero =>
          have HK := Lib.hid (hk.trans (show hSeek xs (gi xs m) 0 = -1 from rfl))
          clear hk
          go_wp2
          go_roundw
          case rel =>
            refine ⟨m + 1, by omega, by go_num, fun j hj => ?_, ⟨_, rfl⟩⟩
            by_cases hjk : j < m
            · exact HE.out j hjk
            · obtain rfl : j = m := by omega
              have := HK.out
              omega
          case measure => simp [intOf]; omega
        | succ a =>
          rw [show (((a + 1 : Nat) : Int) - 1) = a by omega]
          have halt : a < xs.length := by omega
          have q1 := HC.out a halt
          obtain ⟨y0, y1, y2⟩ := HB.out _ (gi_mem halt)
          by_cases h1 : ab (gi xs a) = ab (gi xs m)
          · have h1b : (ab (gi xs a) != ab (gi xs m)) = false := by simp [h1]
            by_cases h2 : gi xs a = -gi xs m
            · have h2b : (gi xs a == -gi xs m) = true := by simp [h2]
              have HK := Lib.hid (hk.trans (show hSeek xs (gi xs m) (a + 1) = a by rw [hSeek, if_pos h1, if_neg (by omega)]))
              have HF := Lib.hid (firstT_some hlt HE.out (by have := HK.out; omega))
              clear hk h1 h2
              go_wp2_with (go_at_call 88; refine (l03Abs_any _ _ (by omega) (by omega)).mono ?_; rintro e w' ⟨rfl, rfl⟩)
              go_quiet (fail)
              go_wp2
              go_returns
              exact ⟨by rw [hF, hT, hOk, HF.out]; simp only [HK.out]; rfl, set_below (Nat.le_refl _) (set_below (Nat.le_refl _) (below_drewN (al1 _ _) _))⟩
            · have h2b : (gi xs a == -gi xs m) = false := by simp [h2]
              have HK := Lib.hid (hk.trans (show hSeek xs (gi xs m) (a + 1) = -1 by rw [hSeek, if_pos h1, if_pos (by unfold ab at h1; omega)]))
              clear hk h1 h2
              go_wp2_with (go_at_call 88; refine (l03Abs_any _ _ (by omega) (by omega)).mono ?_; rintro e w' ⟨rfl, rfl⟩)
              go_quiet (fail)
              go_wp2
              go_roundw
              case rel =>
                refine ⟨m + 1, by omega, by go_num, fun j hj => ?_, ⟨_, rfl⟩⟩
                by_cases hjk : j < m
                · exact HE.out j hjk
                · obtain rfl : j = m := by omega
                  have := HK.out
                  omega
              case measure => simp [intOf]; omega
          · have h1b : (ab (gi xs a) != ab (gi xs m)) = true := by simp [h1]
            by_cases h2 : ab (gi xs a) = ab (gi xs m) - 1
            · have h2b : (ab (gi xs a) != ab (gi xs m) - 1) = false := by simp [h2]
              have h3b : (gi xs a == -gi xs m) = false := by unfold ab at h1; simp; omega
              have HK := Lib.hid (hk.trans (show hSeek xs (gi xs m) (a + 1) = -1 by rw [hSeek, if_neg h1, if_pos h2]))
              clear hk h1 h2
              go_wp2_with (go_at_call 88; refine (l03Abs_any _ _ (by omega) (by omega)).mono ?_; rintro e w' ⟨rfl, rfl⟩)
              go_quiet (fail)
              go_wp2
              go_roundw
              case rel =>
                refine ⟨m + 1, by omega, by go_num, fun j hj => ?_, ⟨_, rfl⟩⟩
                by_cases hjk : j < m
                · exact HE.out j hjk
                · obtain rfl : j = m := by omega
                  have := HK.out
                  omega
              case measure => simp [intOf]; omega
            · have h2b : (ab (gi xs a) != ab (gi xs m) - 1) = true := by simp [h2]
              have HK := Lib.hid (hk.trans (show hSeek xs (gi xs m) (a + 1) = hSeek xs (gi xs m) a by rw [hSeek, if_neg h1, if_neg h2]))
              clear hk h1 h2
              go_wp2_with (go_at_call 88; refine (l03Abs_any _ _ (by omega) (by omega)).mono ?_; rintro e w' ⟨rfl, rfl⟩)
              go_roundw
              case rel => exact ⟨a, by omega, by go_num, HK.out, ⟨_, rfl⟩⟩
              case measure => simp [intOf]
    · have HF := Lib.hid (firstT_none fun j hj => HE.out j (by omega))
      go_wp2
      go_returns
      exact ⟨by rw [hF, hT, hOk, HF.out]; rfl, set_below (Nat.le_refl _) (set_below (Nat.le_refl _) (below_drewN (al1 _ _) _))⟩
theorem braid_cells (w : World) (s : Int) (v : Value) (o : Obj) : ((w.alloc (.cells #[.int .i64 s, v] 40)).alloc o).cell? ⟨w.heap.size, 0, none⟩ = some (.int .i64 s) ∧ ((w.alloc (.cells #[.int .i64 s, v] 40)).alloc o).cell? ⟨w.heap.size, 1, none⟩ = some v :=
  ⟨by simp [World.cell?_alloc_lt], by simp [World.cell?_alloc_lt]⟩
set_option maxHeartbeats 1600000 in
theorem spec_IsHandle_any (s : Int) (v : Value) (xs : List Int) (f t : Int) (B : Nat) (w : World) (h : Sl w B v xs) (hB : B ≤ w.heap.size) :
    Calls Try.prog 26 #[.agg #[.int .i64 s, v], .agg #[.int .i64 f, .int .i64 t]] w fun e w' => e = .returned (.bool (okBr s xs && isH xs f t)) ∧ Below w.heap.size w w' := by
  obtain ⟨A, c, rfl, hl, hm, -⟩ := id h
  unfold maxLen at hm
  have hA := al2 w (.cells #[.int .i64 s, .slice A xs.length c] 40) (.cells #[.int .i64 f, .int .i64 t] 42)
  have HS := Lib.hid (h.below hA hB)
  have HA := Lib.hid hA
  obtain ⟨n0, n1⟩ := braid_cells w s (.slice A xs.length c) (.cells #[.int .i64 f, .int .i64 t] 42)
  clear h hA
  cases hok : okBr s xs
  · go_enter Try.func26, Try.ntmps26
    go_wp2_with (go_at_call 61; refine (l03Ok_any _ _ xs B _ _ HS.out n0 n1).mono ?_; rintro e w' ⟨rfl, n, rfl⟩)
    go_ret
    exact ⟨ret_bool rfl, below_drewN HA.out _⟩
  · have HL := Lib.hid (fun x hx => okBr_mem hok x hx)
    go_enter Try.func26, Try.ntmps26
    go_wp2_with (first | (go_at_call 61; refine (l03Ok_any _ _ xs B _ _ HS.out n0 n1).mono ?_; rintro e w' ⟨rfl, n, rfl⟩) | (go_at_call 62; refine (l06Is_any _ xs B f t _ (HS.out.drewN _) (Nat.le_trans hB HA.out.size) HL.out).mono ?_; rintro e w' ⟨rfl, hb⟩))
    go_ret
    exact ⟨ret_bool rfl, (below_drewN HA.out _).trans (hb.mono HA.out.size)⟩
end Go.Proofs.Ytphbmdoeaebhnaa
