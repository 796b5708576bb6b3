/-
  Contracts: equality of rows, of slices of rows, of carriers, of descriptions of loops. Printed by gen_eqs.py.
-/
import Derived.Test.YtbefioljddhhpaaMac
namespace Go.Proofs.Ytbefioljddhhpaa
set_option maxRecDepth 10000
open Go.RowKit

set_option maxHeartbeats 400000 in
theorem equalInts_any (v1 v2 : Value) (xs ys : List Int) (B1 B2 : Nat) (w : World) (h1 : Sl w B1 v1 xs) (h2 : Sl w B2 v2 ys) :
    Calls Try.prog 69 #[v1, v2] w fun e w' => e = .returned (.bool (decide (xs = ys))) ∧ ∃ n, w' = w.drewN n := by
  obtain ⟨A1, c1, rfl, hl1, hm1, _, hc1⟩ := h1
  obtain ⟨A2, c2, rfl, hl2, hm2, _, hc2⟩ := h2
  unfold maxLen at hm1 hm2
  by_cases hlen : xs.length = ys.length
  · have hb : ((xs.length : Int) != (ys.length : Int)) = false := by rw [hlen]; simp
    have HL := Lib.hid hlen
    have HC1 := Lib.hid hc1
    have HC2 := Lib.hid hc2
    clear hlen hc1 hc2
    go_enter Try.func69, Try.ntmps69
    go_wp2
    go_loopw [13] (fun i wr => ∃ k : Nat, k ≤ xs.length ∧ i = .int .i64 k ∧ (∀ j, j < k → gi xs j = gi ys j) ∧ ∃ n, wr = w.drewN n) (fun i _ => xs.length - (intOf i).toNat)
    case atStart => exact ⟨0, Nat.zero_le _, rfl, fun j h => absurd h (Nat.not_lt_zero _), 0, rfl⟩
    case round =>
      obtain ⟨k, hk, rfl, heq, n, rfl⟩ := hrel
      by_cases hlt : k < xs.length
      · obtain ⟨b1, o1, rfl, hb1, hcell1⟩ := HC1.out (by omega)
        obtain ⟨b2, o2, rfl, hb2, hcell2⟩ := HC2.out (by have := HL.out; omega)
        have hlt2 : k < ys.length := by have := HL.out; omega
        have q1 := hcell1 k hlt
        have q2 := hcell2 k hlt2
        clear hcell1 hcell2
        have HE := Lib.hid heq
        clear heq
        by_cases hx : gi xs k = gi ys k
        · have hxb : (gi xs k != gi ys k) = false := by simp [hx]
          have HX := Lib.hid hx
          clear hx
          go_wp2
          go_quiet (fail)
          go_wp2
          go_roundw
          case rel =>
            refine ⟨k + 1, by omega, by go_num, fun j hj => ?_, _, rfl⟩
            by_cases hjk : j < k
            · exact HE.out j hjk
            · obtain rfl : j = k := by omega
              exact HX.out
          case measure => simp [intOf]; omega
        · have hxb : (gi xs k != gi ys k) = true := by simp [hx]
          have hne : ¬ xs = ys := fun e => hx (by rw [e])
          have hnb : decide (xs = ys) = false := by simp [hne]
          have HNB := Lib.hid hnb
          clear hx hne hnb
          go_wp2
          go_quiet (fail)
          go_wp2
          go_ret
          exact ⟨ret_bool HNB.out.symm, quiet_end _ _ _⟩
      · have HE := Lib.hid heq
        clear heq
        go_wp2
        go_ret
        have hxy : xs = ys := gi_ext HL.out fun j hj => HE.out j (by omega)
        exact ⟨ret_bool (by simp [hxy]), _, rfl⟩
  · have hb : ((xs.length : Int) != (ys.length : Int)) = true := by simp; omega
    have hne : decide (xs = ys) = false := by simp; exact fun e => hlen (by rw [e])
    have HNB := Lib.hid hne
    clear hlen hne hc1 hc2
    go_enter Try.func69, Try.ntmps69
    go_wp2
    go_ret
    exact ⟨ret_bool HNB.out.symm, 0, rfl⟩
theorem equalInts_is {v1 v2 : Value} {xs ys : List Int} {B1 B2 : Nat} {w : World} {T : Bool} (hT : decide (xs = ys) = T) (h1 : Sl w B1 v1 xs) (h2 : Sl w B2 v2 ys) :
    Calls Try.prog 69 #[v1, v2] w fun e w' => e = .returned (.bool T) ∧ Below w.heap.size w w' :=
  (equalInts_any v1 v2 xs ys B1 B2 w h1 h2).mono fun _ _ ⟨h, n, hw⟩ => ⟨by rw [h, hT], by rw [hw]; exact drewN_below w _ n⟩
set_option maxHeartbeats 400000 in
/-- l00Same of slices that read as xs and ys. -/
theorem l00Same_any (v1 v2 : Value) (xs ys : List Int) (B1 B2 : Nat) (w : World) (h1 : Sl w B1 v1 xs) (h2 : Sl w B2 v2 ys) :
    Calls Try.prog 62 #[v1, v2] w fun e w' => e = .returned (.bool (decide (xs = ys))) ∧ ∃ n, w' = w.drewN n := by
  obtain ⟨A1, c1, rfl, hl1, hm1, _, hc1⟩ := h1
  obtain ⟨A2, c2, rfl, hl2, hm2, _, hc2⟩ := h2
  unfold maxLen at hm1 hm2
  by_cases hlen : xs.length = ys.length
  · have hb : ((xs.length : Int) != (ys.length : Int)) = false := by rw [hlen]; simp
    have HL := Lib.hid hlen
    have HC1 := Lib.hid hc1
    have HC2 := Lib.hid hc2
    clear hlen hc1 hc2
    go_enter Try.func62, Try.ntmps62
    go_wp2
    go_loopw [5] (fun i wr => ∃ k : Nat, k ≤ xs.length ∧ i = .int .i64 k ∧ (∀ j, j < k → gi xs j = gi ys j) ∧ ∃ n, wr = w.drewN n) (fun i _ => xs.length - (intOf i).toNat)
    case atStart => exact ⟨0, Nat.zero_le _, rfl, fun j h => absurd h (Nat.not_lt_zero _), 0, rfl⟩
    case round =>
      obtain ⟨k, hk, rfl, heq, n, rfl⟩ := hrel
      by_cases hlt : k < xs.length
      · obtain ⟨b1, o1, rfl, hb1, hcell1⟩ := HC1.out (by omega)
        obtain ⟨b2, o2, rfl, hb2, hcell2⟩ := HC2.out (by have := HL.out; omega)
        have hlt2 : k < ys.length := by have := HL.out; omega
        have q1 := hcell1 k hlt
        have q2 := hcell2 k hlt2
        clear hcell1 hcell2
        have HE := Lib.hid heq
        clear heq
        by_cases hx : gi xs k = gi ys k
        · have hxb : (gi xs k != gi ys k) = false := by simp [hx]
          have HX := Lib.hid hx
          clear hx
          go_wp2
          go_quiet (fail)
          go_wp2
          go_roundw
          case rel =>
            refine ⟨k + 1, by omega, by go_num, fun j hj => ?_, _, rfl⟩
            by_cases hjk : j < k
            · exact HE.out j hjk
            · obtain rfl : j = k := by omega
              exact HX.out
          case measure => simp [intOf]; omega
        · have hxb : (gi xs k != gi ys k) = true := by simp [hx]
          have hne : ¬ xs = ys := fun e => hx (by rw [e])
          have hnb : decide (xs = ys) = false := by simp [hne]
          have HNB := Lib.hid hnb
          clear hx hne hnb
          go_wp2
          go_quiet (fail)
          go_wp2
          go_ret
          exact ⟨ret_bool HNB.out.symm, quiet_end _ _ _⟩
      · have HE := Lib.hid heq
        clear heq
        go_wp2
        go_ret
        have hxy : xs = ys := gi_ext HL.out fun j hj => HE.out j (by omega)
        exact ⟨ret_bool (by simp [hxy]), _, rfl⟩
  · have hb : ((xs.length : Int) != (ys.length : Int)) = true := by simp; omega
    have hne : decide (xs = ys) = false := by simp; exact fun e => hlen (by rw [e])
    have HNB := Lib.hid hne
    clear hlen hne hc1 hc2
    go_enter Try.func62, Try.ntmps62
    go_wp2
    go_ret
    exact ⟨ret_bool HNB.out.symm, 0, rfl⟩

theorem l00Same_is {v1 v2 : Value} {xs ys : List Int} {B1 B2 : Nat} {w : World} {T : Bool} (hT : decide (xs = ys) = T) (h1 : Sl w B1 v1 xs) (h2 : Sl w B2 v2 ys) :
    Calls Try.prog 62 #[v1, v2] w fun e w' => e = .returned (.bool T) ∧ ∃ n, w' = w.drewN n := by rw [← hT]; exact l00Same_any _ _ _ _ _ _ _ h1 h2
theorem l00Same_b {v1 v2 : Value} {xs ys : List Int} {B1 B2 : Nat} {w : World} {T : Bool} (hT : decide (xs = ys) = T) (h1 : Sl w B1 v1 xs) (h2 : Sl w B2 v2 ys) :
    Calls Try.prog 62 #[v1, v2] w fun e w' => e = .returned (.bool T) ∧ Below w.heap.size w w' :=
  (l00Same_is hT h1 h2).mono fun _ _ ⟨h, n, hw⟩ => ⟨h, by rw [hw]; exact drewN_below w _ n⟩
theorem same1_any {v1 v2 : Value} {xs ys : List Int} {B1 B2 : Nat} {w : World} {T : Bool} (hT : decide (xs = ys) = T) (h1 : Sl w B1 v1 xs) (h2 : Sl w B2 v2 ys) :
    Calls Try.prog 101 #[v1, v2] w fun e w' => e = .returned (.bool T) ∧ ∃ n, w' = w.drewN n := by
  go_enter Try.func101, Try.ntmps101
  go_wp2_with (go_at_call 69; refine (equalInts_any _ _ xs ys _ _ _ h1 h2).mono ?_; rintro e w' ⟨rfl, n, rfl⟩; rw [hT])
  go_ret
  exact ⟨rfl, n, rfl⟩
set_option maxHeartbeats 800000 in
theorem sameSS_any {v1 v2 : Value} {xss yss : List (List Int)} {B1 B2 : Nat} {w : World} (h1 : SlS w B1 v1 xss) (h2 : SlS w B2 v2 yss) :
    Calls Try.prog 100 #[v1, v2, .func (.func 101) #[] #[]] w fun e w' => e = .returned (.bool (decide (xss = yss))) ∧ ∃ n, w' = w.drewN n := by
  obtain ⟨A1, c1, rfl, hl1, hm1, _, hc1⟩ := h1
  obtain ⟨A2, c2, rfl, hl2, hm2, _, hc2⟩ := h2
  unfold maxLen at hm1 hm2
  by_cases hlen : xss.length = yss.length
  · have hb : ((xss.length : Int) != (yss.length : Int)) = false := by rw [hlen]; simp
    have HL := Lib.hid hlen
    have HC1 := Lib.hid hc1
    have HC2 := Lib.hid hc2
    clear hlen hc1 hc2
    go_enter Try.func100, Try.ntmps100
    go_wp2
    go_loopw [17] (fun i wr => ∃ k : Nat, k ≤ xss.length ∧ i = .int .i64 k ∧ (∀ j, j < k → gl xss j = gl yss j) ∧ ∃ n, wr = w.drewN n) (fun i _ => xss.length - (intOf i).toNat)
    case atStart => exact ⟨0, Nat.zero_le _, rfl, fun j h => absurd h (Nat.not_lt_zero _), 0, rfl⟩
    case round =>
      obtain ⟨k, hk, rfl, heq, n, rfl⟩ := hrel
      have HE := Lib.hid heq
      clear heq
      by_cases hlt : k < xss.length
      · obtain ⟨b1, o1, rfl, hb1, hcell1⟩ := HC1.out (by omega)
        obtain ⟨b2, o2, rfl, hb2, hcell2⟩ := HC2.out (by have := HL.out; omega)
        have hlt2 : k < yss.length := by have := HL.out; omega
        obtain ⟨u1, q1, s1⟩ := hcell1 k hlt
        obtain ⟨u2, q2, s2⟩ := hcell2 k hlt2
        clear hcell1 hcell2
        by_cases hx : gl xss k = gl yss k
        · have HX := Lib.hid hx
          have hxb : decide (gl xss k = gl yss k) = true := by simp [hx]
          clear hx
          go_wp2_with (go_at_call 101; refine (same1_any hxb (s1.drewN n) (s2.drewN n)).mono ?_; rintro e w' ⟨rfl, n2, rfl⟩)
          go_roundw
          case rel =>
            refine ⟨k + 1, by omega, by go_num, fun j hj => ?_, _, rfl⟩
            by_cases hjk : j < k
            · exact HE.out j hjk
            · obtain rfl : j = k := by omega
              exact HX.out
          case measure => simp [intOf]; omega
        · have hxb : decide (gl xss k = gl yss k) = false := by simp [hx]
          have HNB := Lib.hid (show decide (xss = yss) = false by simp; exact fun e => hx (by rw [e]))
          clear hx
          go_wp2_with (go_at_call 101; refine (same1_any hxb (s1.drewN n) (s2.drewN n)).mono ?_; rintro e w' ⟨rfl, n2, rfl⟩)
          go_ret
          exact ⟨ret_bool HNB.out.symm, _, rfl⟩
      · go_wp2
        go_ret
        have hxy : xss = yss := gl_ext HL.out fun j hj => HE.out j (by omega)
        exact ⟨ret_bool (by simp [hxy]), _, rfl⟩
  · have hb : ((xss.length : Int) != (yss.length : Int)) = true := by simp; omega
    have HNB := Lib.hid (show decide (xss = yss) = false by simp; exact fun e => hlen (by rw [e]))
    clear hlen hc1 hc2
    go_enter Try.func100, Try.ntmps100
    go_wp2
    go_ret
    exact ⟨ret_bool HNB.out.symm, 0, rfl⟩
theorem sameLists_is {v1 v2 : Value} {xss yss : List (List Int)} {B1 B2 : Nat} {w : World} {T : Bool} (hT : decide (xss = yss) = T) (h1 : SlS w B1 v1 xss) (h2 : SlS w B2 v2 yss) :
    Calls Try.prog 67 #[v1, v2] w fun e w' => e = .returned (.bool T) ∧ Below w.heap.size w w' := by
  go_enter Try.func67, Try.ntmps67
  go_wp2_with (go_at_call 100; refine (sameSS_any h1 h2).mono ?_; rintro e w' ⟨rfl, n, rfl⟩; rw [hT])
  go_ret
  exact ⟨rfl, drewN_below _ _ n⟩
theorem l00Same_qq {v1 v2 : Value} {xs ys : List Int} {B1 B2 : Nat} {w : World} {T : Bool} (hT : decide (xs = ys) = T) (h1 : Sl w B1 v1 xs) (h2 : Sl w B2 v2 ys) (n x : Nat) :
    Calls Try.prog 62 #[v1, v2] (w.drewN (n + x)) fun e w'' => e = .returned (.bool T) ∧ ∃ m, w'' = w.drewN (n + m) :=
  (l00Same_is hT (h1.drewN _) (h2.drewN _)).mono fun e w' ⟨he, m, hw⟩ => ⟨he, x + m, by rw [hw, drewN_two, Nat.add_assoc]⟩
set_option maxHeartbeats 800000 in
theorem l07Same_any {v1 v2 : Value} {xss yss : List (List Int)} {B1 B2 : Nat} {w : World} (h1 : SlS w B1 v1 xss) (h2 : SlS w B2 v2 yss) :
    Calls Try.prog 61 #[v1, v2] w fun e w' => e = .returned (.bool (decide (xss = yss))) ∧ ∃ n, w' = w.drewN n := by
  obtain ⟨A1, c1, rfl, hl1, hm1, _, hc1⟩ := h1
  obtain ⟨A2, c2, rfl, hl2, hm2, _, hc2⟩ := h2
  unfold maxLen at hm1 hm2
  by_cases hlen : xss.length = yss.length
  · have hb : ((xss.length : Int) != (yss.length : Int)) = false := by rw [hlen]; simp
    have HL := Lib.hid hlen
    have HC1 := Lib.hid hc1
    have HC2 := Lib.hid hc2
    clear hlen hc1 hc2
    go_enter Try.func61, Try.ntmps61
    go_wp2
    go_loopw [5] (fun i wr => ∃ k : Nat, k ≤ xss.length ∧ i = .int .i64 k ∧ (∀ j, j < k → gl xss j = gl yss j) ∧ ∃ n, wr = w.drewN n) (fun i _ => xss.length - (intOf i).toNat)
    case atStart => exact ⟨0, Nat.zero_le _, rfl, fun j h => absurd h (Nat.not_lt_zero _), 0, rfl⟩
    case round =>
      obtain ⟨k, hk, rfl, heq, n, rfl⟩ := hrel
      have HE := Lib.hid heq
      clear heq
      by_cases hlt : k < xss.length
      · obtain ⟨b1, o1, rfl, hb1, hcell1⟩ := HC1.out (by omega)
        obtain ⟨b2, o2, rfl, hb2, hcell2⟩ := HC2.out (by have := HL.out; omega)
        have hlt2 : k < yss.length := by have := HL.out; omega
        obtain ⟨u1, q1, s1⟩ := hcell1 k hlt
        obtain ⟨u2, q2, s2⟩ := hcell2 k hlt2
        obtain ⟨Au1, cu1, rfl, -⟩ := id s1
        obtain ⟨Au2, cu2, rfl, -⟩ := id s2
        clear hcell1 hcell2
        by_cases hx : gl xss k = gl yss k
        · have HX := Lib.hid (show ∀ j, j < k + 1 → gl xss j = gl yss j from fun j hj => by
            by_cases hjk : j < k
            · exact HE.out j hjk
            · obtain rfl : j = k := by omega
              exact hx)
          have hxb : decide (gl xss k = gl yss k) = true := by simp [hx]
          clear hx
          generalize gl xss k = xk at *
          generalize gl yss k = yk at *
          go_wp2_with fail
          go_quiet (first | (go_at_call 62; exact l00Same_qq hxb s1 s2 _ _))
          go_wp2
          go_roundw
          case rel => exact ⟨k + 1, by omega, by go_num, HX.out, _, rfl⟩
          case measure => simp [intOf]; omega
        · have hxb : decide (gl xss k = gl yss k) = false := by simp [hx]
          have HNB := Lib.hid (show decide (xss = yss) = false by simp; exact fun e => hx (by rw [e]))
          clear hx
          go_wp2_with fail
          go_quiet (first | (go_at_call 62; exact l00Same_qq hxb s1 s2 _ _))
          go_wp2
          go_ret
          exact ⟨ret_bool HNB.out.symm, quiet_end _ _ _⟩
      · go_wp2
        go_ret
        have hxy : xss = yss := gl_ext HL.out fun j hj => HE.out j (by omega)
        exact ⟨ret_bool (by simp [hxy]), _, rfl⟩
  · have hb : ((xss.length : Int) != (yss.length : Int)) = true := by simp; omega
    have HNB := Lib.hid (show decide (xss = yss) = false by simp; exact fun e => hlen (by rw [e]))
    clear hlen hc1 hc2
    go_enter Try.func61, Try.ntmps61
    go_wp2
    go_ret
    exact ⟨ret_bool HNB.out.symm, 0, rfl⟩
theorem l07Same_b {v1 v2 : Value} {xss yss : List (List Int)} {B1 B2 : Nat} {w : World} {T : Bool} (hT : decide (xss = yss) = T) (h1 : SlS w B1 v1 xss) (h2 : SlS w B2 v2 yss) :
    Calls Try.prog 61 #[v1, v2] w fun e w' => e = .returned (.bool T) ∧ Below w.heap.size w w' :=
  (l07Same_any h1 h2).mono fun _ _ ⟨h, n, hw⟩ => ⟨by rw [h, hT], by rw [hw]; exact drewN_below w _ n⟩
end Go.Proofs.Ytbefioljddhhpaa
