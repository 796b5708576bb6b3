/-
  Contracts: ArtinEqual of the program and of the reference.
-/
import Derived.Test.YtcinnbkhnonijaaArt5
import Derived.Test.YtcinnbkhnonijaaIsa
namespace Go.Proofs.Ytcinnbkhnonijaa
set_option maxRecDepth 10000
open Go.RowKit

def aeGo (a b : Option (List (List Int))) : Bool × Int := match a, b with
  | some x, some y => (decide (x = y), 0)
  | _, _ => (false, 5)
def aeA (s : Int) (xs : List Int) (t : Int) (ys : List Int) : Bool × Int :=
  if okBr s xs = true ∧ okBr t ys = true then (if s = t then (if xs.length ≤ 16 ∧ ys.length ≤ 16 then aeGo (artUp xs s.toNat) (artUp ys s.toNat) else (false, 2)) else (false, 6)) else (false, 1)
set_option maxHeartbeats 400000 in
theorem equalInts_any (v1 v2 : Value) (xs ys : List Int) (B1 B2 : Nat) (w : World) (h1 : Sl w B1 v1 xs) (h2 : Sl w B2 v2 ys) :
    Calls Try.prog 32 #[v1, v2] w fun e w' => e = .returned (.bool (decide (xs = ys))) ∧ ∃ n, w' = w.drewN n := by
  obtain ⟨A1, c1, rfl, hl1, hm1, _, hc1⟩ := h1
  obtain ⟨A2, c2, rfl, hl2, hm2, _, hc2⟩ := h2
  unfold maxLen at hm1 hm2
  by_cases hlen : xs.length = ys.length
  · have hb : ((xs.length : Int) != (ys.length : Int)) = false := by rw [hlen]; simp
    have HL := Lib.hid hlen
    have HC1 := Lib.hid hc1
    have HC2 := Lib.hid hc2
    clear hlen hc1 hc2
    go_enter Try.func32, Try.ntmps32
    go_wp2
    go_loopw [13] (fun i wr => ∃ k : Nat, k ≤ xs.length ∧ i = .int .i64 k ∧ (∀ j, j < k → gi xs j = gi ys j) ∧ ∃ n, wr = w.drewN n) (fun i _ => xs.length - (intOf i).toNat)
    case atStart => exact ⟨0, Nat.zero_le _, rfl, fun j h => absurd h (Nat.not_lt_zero _), 0, rfl⟩
    case round =>
      obtain ⟨k, hk, rfl, heq, n, rfl⟩ := hrel
      by_cases hlt : k < xs.length
      · obtain ⟨b1, o1, rfl, hb1, hcell1⟩ := HC1.out (by omega)
        obtain ⟨b2, o2, rfl, hb2, hcell2⟩ := HC2.out (by have := HL.out; omega)
        have hlt2 : k < ys.length := by have := HL.out; omega
        have q1 := hcell1 k hlt
        have q2 := hcell2 k hlt2
        clear hcell1 hcell2
        have HE := Lib.hid heq
        clear heq
        by_cases hx : gi xs k = gi ys k
        · have hxb : (gi xs k != gi ys k) = false := by simp [hx]
          have HX := Lib.hid hx
          clear hx
          go_wp2
          go_quiet (fail)
          go_wp2
          go_roundw
          case rel =>
            refine ⟨k + 1, by omega, by go_num, fun j hj => ?_, _, rfl⟩
            by_cases hjk : j < k
            · exact HE.out j hjk
            · obtain rfl : j = k := by omega
              exact HX.out
          case measure => simp [intOf]; omega
        · have hxb : (gi xs k != gi ys k) = true := by simp [hx]
          have hne : ¬ xs = ys := fun e => hx (by rw [e])
          have hnb : decide (xs = ys) = false := by simp [hne]
          have HNB := Lib.hid hnb
          clear hx hne hnb
          go_wp2
          go_quiet (fail)
          go_wp2
          go_ret
          exact ⟨ret_bool HNB.out.symm, quiet_end _ _ _⟩
      · have HE := Lib.hid heq
        clear heq
        go_wp2
        go_ret
        have hxy : xs = ys := gi_ext HL.out fun j hj => HE.out j (by omega)
        exact ⟨ret_bool (by simp [hxy]), _, rfl⟩
  · have hb : ((xs.length : Int) != (ys.length : Int)) = true := by simp; omega
    have hne : decide (xs = ys) = false := by simp; exact fun e => hlen (by rw [e])
    have HNB := Lib.hid hne
    clear hlen hne hc1 hc2
    go_enter Try.func32, Try.ntmps32
    go_wp2
    go_ret
    exact ⟨ret_bool HNB.out.symm, 0, rfl⟩
theorem artEq1_any (v1 v2 : Value) (xs ys : List Int) (B1 B2 : Nat) (w : World) (h1 : Sl w B1 v1 xs) (h2 : Sl w B2 v2 ys) :
    Calls Try.prog 31 #[v1, v2] w fun e w' => e = .returned (.bool (decide (xs = ys))) ∧ ∃ n, w' = w.drewN n := by
  go_enter Try.func31, Try.ntmps31
  go_wp2_with (go_at_call 32; refine (equalInts_any _ _ xs ys _ _ _ h1 h2).mono ?_; rintro e w' ⟨rfl, n, rfl⟩)
  go_ret
  exact ⟨rfl, n, rfl⟩
set_option maxHeartbeats 800000 in
theorem equalSS_any (v1 v2 : Value) (xss yss : List (List Int)) (B1 B2 : Nat) (w : World) (h1 : SlS w B1 v1 xss) (h2 : SlS w B2 v2 yss) (hlen : xss.length = yss.length) :
    Calls Try.prog 30 #[v1, v2, .func (.func 31) #[] #[]] w fun e w' => e = .returned (.bool (decide (xss = yss))) ∧ ∃ n, w' = w.drewN n := by
  obtain ⟨A1, c1, rfl, hl1, hm1, _, hc1⟩ := h1
  obtain ⟨A2, c2, rfl, hl2, hm2, _, hc2⟩ := h2
  unfold maxLen at hm1 hm2
  have hb : ((xss.length : Int) != (yss.length : Int)) = false := by rw [hlen]; simp
  have HL := Lib.hid hlen
  have HC1 := Lib.hid hc1
  have HC2 := Lib.hid hc2
  clear hlen hc1 hc2
  go_enter Try.func30, Try.ntmps30
  go_wp2
  go_loopw [17] (fun i wr => ∃ k : Nat, k ≤ xss.length ∧ i = .int .i64 k ∧ (∀ j, j < k → gl xss j = gl yss j) ∧ ∃ n, wr = w.drewN n) (fun i _ => xss.length - (intOf i).toNat)
  case atStart => exact ⟨0, Nat.zero_le _, rfl, fun j h => absurd h (Nat.not_lt_zero _), 0, rfl⟩
  case round =>
    obtain ⟨k, hk, rfl, heq, n, rfl⟩ := hrel
    have HE := Lib.hid heq
    clear heq
    by_cases hlt : k < xss.length
    · obtain ⟨b1, o1, rfl, hb1, hcell1⟩ := HC1.out (by omega)
      obtain ⟨b2, o2, rfl, hb2, hcell2⟩ := HC2.out (by have := HL.out; omega)
      have hlt2 : k < yss.length := by have := HL.out; omega
      obtain ⟨u1, q1, s1⟩ := hcell1 k hlt
      obtain ⟨u2, q2, s2⟩ := hcell2 k hlt2
      clear hcell1 hcell2
      by_cases hx : gl xss k = gl yss k
      · have HX := Lib.hid hx
        have hxb : decide (gl xss k = gl yss k) = true := by simp [hx]
        clear hx
        go_wp2_with (go_at_call 31; refine (artEq1_any _ _ _ _ _ _ _ (s1.drewN n) (s2.drewN n)).mono ?_; rintro e w' ⟨rfl, n2, rfl⟩)
        go_roundw
        case rel =>
          refine ⟨k + 1, by omega, by go_num, fun j hj => ?_, _, rfl⟩
          by_cases hjk : j < k
          · exact HE.out j hjk
          · obtain rfl : j = k := by omega
            exact HX.out
        case measure => simp [intOf]; omega
      · have hxb : decide (gl xss k = gl yss k) = false := by simp [hx]
        have HNB := Lib.hid (show decide (xss = yss) = false by simp; exact fun e => hx (by rw [e]))
        clear hx
        go_wp2_with (go_at_call 31; refine (artEq1_any _ _ _ _ _ _ _ (s1.drewN n) (s2.drewN n)).mono ?_; rintro e w' ⟨rfl, n2, rfl⟩)
        go_ret
        exact ⟨ret_bool HNB.out.symm, _, rfl⟩
    · go_wp2
      go_ret
      have hxy : xss = yss := gl_ext HL.out fun j hj => HE.out j (by omega)
      exact ⟨ret_bool (by simp [hxy]), _, rfl⟩
theorem keep4 {W w1 : World} {C g k : Nat} {x0 x1 x2 x3 : Value} (hb : Below C W w1) (hg : g < C) (hk : k < C) (j : W.cell? ⟨g, 0, none⟩ = some x0 ∧ W.cell? ⟨g, 1, none⟩ = some x1 ∧ W.cell? ⟨k, 0, none⟩ = some x2 ∧ W.cell? ⟨k, 1, none⟩ = some x3) :
    w1.cell? ⟨g, 0, none⟩ = some x0 ∧ w1.cell? ⟨g, 1, none⟩ = some x1 ∧ w1.cell? ⟨k, 0, none⟩ = some x2 ∧ w1.cell? ⟨k, 1, none⟩ = some x3 :=
  ⟨by rw [hb.cell hg]; exact j.1, by rw [hb.cell hg]; exact j.2.1, by rw [hb.cell hk]; exact j.2.2.1, by rw [hb.cell hk]; exact j.2.2.2⟩
theorem two_cells (w : World) (s t : Int) (v u : Value) : let W := (w.alloc (.cells #[.int .i64 s, v] 26)).alloc (.cells #[.int .i64 t, u] 26)
    W.cell? ⟨w.heap.size, 0, none⟩ = some (.int .i64 s) ∧ W.cell? ⟨w.heap.size, 1, none⟩ = some v ∧ W.cell? ⟨w.heap.size + 1, 0, none⟩ = some (.int .i64 t) ∧ W.cell? ⟨w.heap.size + 1, 1, none⟩ = some u :=
  ⟨by simp [World.cell?_alloc_lt], by simp [World.cell?_alloc_lt], by simp, by simp⟩
theorem impl_Art_yes {n : Nat} {v : Value} {xs : List Int} {B : Nat} {w : World} {rows : List (List Int)} (h : Sl w B v xs) (hB : B ≤ w.heap.size) (hok : okBr n xs = true) (hx : xs.length ≤ 16) (hr : artUp xs n = some rows) :
    Calls Try.prog 29 #[.agg #[.int .i64 n, v]] w fun e w' => ∃ r, e = .returned (.tuple #[r, .int .i64 0]) ∧ OwS w' (Iv w.heap.size w'.heap.size) r rows ∧ Below w.heap.size w w' := by
  have := impl_ArtinAction_any n v xs B w h hB
  rw [show artA n xs = (rows, 0) by simp [artA, hok, hx, hr, artOf]] at this
  exact this
theorem impl_Art_no {n : Nat} {v : Value} {xs : List Int} {B : Nat} {w : World} (h : Sl w B v xs) (hB : B ≤ w.heap.size) (hok : okBr n xs = true) (hx : xs.length ≤ 16) (hr : artUp xs n = none) :
    Calls Try.prog 29 #[.agg #[.int .i64 n, v]] w fun e w' => ∃ r, e = .returned (.tuple #[r, .int .i64 5]) ∧ OwS w' (Iv w.heap.size w'.heap.size) r [] ∧ Below w.heap.size w w' := by
  have := impl_ArtinAction_any n v xs B w h hB
  rw [show artA n xs = ([], 5) by simp [artA, hok, hx, hr, artOf]] at this
  exact this
set_option maxHeartbeats 1600000 in
theorem impl_ArtinEqual_any (s t : Int) (v u : Value) (xs ys : List Int) (B : Nat) (w : World) (h : Sl w B v xs) (h2 : Sl w B u ys) (hB : B ≤ w.heap.size) :
    Calls Try.prog 9 #[.agg #[.int .i64 s, v], .agg #[.int .i64 t, u]] w fun e w' => e = .returned (.tuple #[.bool (aeA s xs t ys).1, .int .i64 (aeA s xs t ys).2]) ∧ Below w.heap.size w w' := by
  obtain ⟨A, c, rfl, hl, hm, -⟩ := id h
  obtain ⟨A2, c', rfl, hl2, hm2, -⟩ := id h2
  unfold maxLen at hm hm2
  have hA := al2 w (.cells #[.int .i64 s, .slice A xs.length c] 26) (.cells #[.int .i64 t, .slice A2 ys.length c'] 26)
  have hs1 := h.below hA hB
  have hs2 := h2.below hA hB
  have hB1 := Nat.le_trans hB hA.size
  have K0 := two_cells w s t (.slice A xs.length c) (.slice A2 ys.length c')
  obtain ⟨j0, j1, j2, j3⟩ := id K0
  cases hok : okBr s xs
  · have H1 := Lib.hid (show aeA s xs t ys = (false, 1) by simp [aeA, hok])
    go_enter Try.func9, Try.ntmps9
    go_wp2_with fail
    refine (impl_ValidBraid_any _ _ xs B _ hs1 hB1).mono ?_
    rintro e w1 ⟨rfl, hb1⟩
    have hz1 : w.heap.size + 1 < w1.heap.size := by have := hb1.size; simp at this; omega
    have K1 := keep4 hb1 (by simp; omega) (by simp) K0
    have hw1 := hA.trans (hb1.mono hA.size)
    clear K0 j0 j1 j2 j3
    obtain ⟨j0, j1, j2, j3⟩ := id K1
    go_wp2_with fail
    go_ret2
    exact ⟨by rw [H1.out]; rfl, hw1⟩
  · cases hok2 : okBr t ys
    · have H1 := Lib.hid (show aeA s xs t ys = (false, 1) by simp [aeA, hok2])
      go_enter Try.func9, Try.ntmps9
      go_wp2_with fail
      refine (impl_ValidBraid_any _ _ xs B _ hs1 hB1).mono ?_
      rintro e w1 ⟨rfl, hb1⟩
      have hz1 : w.heap.size + 1 < w1.heap.size := by have := hb1.size; simp at this; omega
      have K1 := keep4 hb1 (by simp; omega) (by simp) K0
      have hw1 := hA.trans (hb1.mono hA.size)
      clear K0 j0 j1 j2 j3
      obtain ⟨j0, j1, j2, j3⟩ := id K1
      go_wp2_with fail
      refine (impl_ValidBraid_any _ _ ys B _ (h2.below hw1 hB) (Nat.le_trans hB hw1.size)).mono ?_
      rintro e w2 ⟨rfl, hb2⟩
      have hz2 : w.heap.size + 1 < w2.heap.size := Nat.lt_of_lt_of_le hz1 hb2.size
      have K2 := keep4 hb2 (by omega) hz1 K1
      have hw2 := hw1.trans (hb2.mono hw1.size)
      clear K1 j0 j1 j2 j3
      obtain ⟨j0, j1, j2, j3⟩ := id K2
      go_wp2_with fail
      go_ret2
      exact ⟨by rw [H1.out]; rfl, hw2⟩
    · by_cases hst : s = t
      · subst hst
        obtain ⟨p1, -, -, -⟩ := okBr_parts hok
        obtain ⟨n, rfl⟩ : ∃ n : Nat, s = n := ⟨s.toNat, by omega⟩
        clear p1
        by_cases ha : xs.length ≤ 16
        · have haI : ¬ 16 < (xs.length : Int) := by omega
          by_cases hb : ys.length ≤ 16
          · have hbI : ¬ 16 < (ys.length : Int) := by omega
            have H0 : aeA n xs n ys = aeGo (artUp xs n) (artUp ys n) := by simp [aeA, hok, hok2, ha, hb]
            cases hr1 : artUp xs n with
            | none =>
              have HR1 := Lib.hid hr1
              cases hr2 : artUp ys n with
              | none =>
                have HR2 := Lib.hid hr2
                clear hr1 hr2
                have H1 := Lib.hid (show aeA n xs n ys = (false, 5) by rw [H0, HR1.out, HR2.out]; rfl)
                clear H0
                go_enter Try.func9, Try.ntmps9
                go_wp2_with fail
                refine (impl_ValidBraid_any _ _ xs B _ hs1 hB1).mono ?_
                rintro e w1 ⟨rfl, hb1⟩
                have hz1 : w.heap.size + 1 < w1.heap.size := by have := hb1.size; simp at this; omega
                have K1 := keep4 hb1 (by simp; omega) (by simp) K0
                have hw1 := hA.trans (hb1.mono hA.size)
                clear K0 j0 j1 j2 j3
                obtain ⟨j0, j1, j2, j3⟩ := id K1
                go_wp2_with fail
                refine (impl_ValidBraid_any _ _ ys B _ (h2.below hw1 hB) (Nat.le_trans hB hw1.size)).mono ?_
                rintro e w2 ⟨rfl, hb2⟩
                have hz2 : w.heap.size + 1 < w2.heap.size := Nat.lt_of_lt_of_le hz1 hb2.size
                have K2 := keep4 hb2 (by omega) hz1 K1
                have hw2 := hw1.trans (hb2.mono hw1.size)
                clear K1 j0 j1 j2 j3
                obtain ⟨j0, j1, j2, j3⟩ := id K2
                go_wp2_with fail
                refine (impl_Art_no (xs := xs) (B := B) (h.below hw2 hB) (Nat.le_trans hB hw2.size) hok ha HR1.out).mono ?_
                rintro e w3 ⟨r1, rfl, hO1, hb3⟩
                have hw3 := hw2.trans (hb3.mono hw2.size)
                have hz3 := Nat.lt_of_lt_of_le hz2 hb3.size
                have K3 := keep4 hb3 (by omega) hz2 K2
                clear K2 j0 j1 j2 j3
                obtain ⟨j0, j1, j2, j3⟩ := id K3
                go_wp2_with fail
                refine (impl_Art_no (xs := ys) (B := B) (h2.below hw3 hB) (Nat.le_trans hB hw3.size) hok2 hb HR2.out).mono ?_
                rintro e w4 ⟨r2, rfl, hO2, hb4⟩
                have hw4 := hw3.trans (hb4.mono hw3.size)
                go_wp2_with fail
                go_ret2
                exact ⟨by rw [H1.out]; rfl, hw4⟩
              | some rows2 =>
                have HR2 := Lib.hid hr2
                clear hr1 hr2
                have H1 := Lib.hid (show aeA n xs n ys = (false, 5) by rw [H0, HR1.out, HR2.out]; rfl)
                clear H0
                go_enter Try.func9, Try.ntmps9
                go_wp2_with fail
                refine (impl_ValidBraid_any _ _ xs B _ hs1 hB1).mono ?_
                rintro e w1 ⟨rfl, hb1⟩
                have hz1 : w.heap.size + 1 < w1.heap.size := by have := hb1.size; simp at this; omega
                have K1 := keep4 hb1 (by simp; omega) (by simp) K0
                have hw1 := hA.trans (hb1.mono hA.size)
                clear K0 j0 j1 j2 j3
                obtain ⟨j0, j1, j2, j3⟩ := id K1
                go_wp2_with fail
                refine (impl_ValidBraid_any _ _ ys B _ (h2.below hw1 hB) (Nat.le_trans hB hw1.size)).mono ?_
                rintro e w2 ⟨rfl, hb2⟩
                have hz2 : w.heap.size + 1 < w2.heap.size := Nat.lt_of_lt_of_le hz1 hb2.size
                have K2 := keep4 hb2 (by omega) hz1 K1
                have hw2 := hw1.trans (hb2.mono hw1.size)
                clear K1 j0 j1 j2 j3
                obtain ⟨j0, j1, j2, j3⟩ := id K2
                go_wp2_with fail
                refine (impl_Art_no (xs := xs) (B := B) (h.below hw2 hB) (Nat.le_trans hB hw2.size) hok ha HR1.out).mono ?_
                rintro e w3 ⟨r1, rfl, hO1, hb3⟩
                have hw3 := hw2.trans (hb3.mono hw2.size)
                have hz3 := Nat.lt_of_lt_of_le hz2 hb3.size
                have K3 := keep4 hb3 (by omega) hz2 K2
                clear K2 j0 j1 j2 j3
                obtain ⟨j0, j1, j2, j3⟩ := id K3
                go_wp2_with fail
                refine (impl_Art_yes (xs := ys) (B := B) (h2.below hw3 hB) (Nat.le_trans hB hw3.size) hok2 hb HR2.out).mono ?_
                rintro e w4 ⟨r2, rfl, hO2, hb4⟩
                have hw4 := hw3.trans (hb4.mono hw3.size)
                go_wp2_with fail
                go_ret2
                exact ⟨by rw [H1.out]; rfl, hw4⟩
            | some rows1 =>
              have HR1 := Lib.hid hr1
              cases hr2 : artUp ys n with
              | none =>
                have HR2 := Lib.hid hr2
                clear hr1 hr2
                have H1 := Lib.hid (show aeA n xs n ys = (false, 5) by rw [H0, HR1.out, HR2.out]; rfl)
                clear H0
                go_enter Try.func9, Try.ntmps9
                go_wp2_with fail
                refine (impl_ValidBraid_any _ _ xs B _ hs1 hB1).mono ?_
                rintro e w1 ⟨rfl, hb1⟩
                have hz1 : w.heap.size + 1 < w1.heap.size := by have := hb1.size; simp at this; omega
                have K1 := keep4 hb1 (by simp; omega) (by simp) K0
                have hw1 := hA.trans (hb1.mono hA.size)
                clear K0 j0 j1 j2 j3
                obtain ⟨j0, j1, j2, j3⟩ := id K1
                go_wp2_with fail
                refine (impl_ValidBraid_any _ _ ys B _ (h2.below hw1 hB) (Nat.le_trans hB hw1.size)).mono ?_
                rintro e w2 ⟨rfl, hb2⟩
                have hz2 : w.heap.size + 1 < w2.heap.size := Nat.lt_of_lt_of_le hz1 hb2.size
                have K2 := keep4 hb2 (by omega) hz1 K1
                have hw2 := hw1.trans (hb2.mono hw1.size)
                clear K1 j0 j1 j2 j3
                obtain ⟨j0, j1, j2, j3⟩ := id K2
                go_wp2_with fail
                refine (impl_Art_yes (xs := xs) (B := B) (h.below hw2 hB) (Nat.le_trans hB hw2.size) hok ha HR1.out).mono ?_
                rintro e w3 ⟨r1, rfl, hO1, hb3⟩
                have hw3 := hw2.trans (hb3.mono hw2.size)
                have hz3 := Nat.lt_of_lt_of_le hz2 hb3.size
                have K3 := keep4 hb3 (by omega) hz2 K2
                clear K2 j0 j1 j2 j3
                obtain ⟨j0, j1, j2, j3⟩ := id K3
                go_wp2_with fail
                refine (impl_Art_no (xs := ys) (B := B) (h2.below hw3 hB) (Nat.le_trans hB hw3.size) hok2 hb HR2.out).mono ?_
                rintro e w4 ⟨r2, rfl, hO2, hb4⟩
                have hw4 := hw3.trans (hb4.mono hw3.size)
                go_wp2_with fail
                go_ret2
                exact ⟨by rw [H1.out]; rfl, hw4⟩
              | some rows2 =>
                have HR2 := Lib.hid hr2
                clear hr1 hr2
                obtain ⟨X, hX⟩ : ∃ X, decide (rows1 = rows2) = X := ⟨_, rfl⟩
                have H1 := Lib.hid (show aeA n xs n ys = (X, 0) by rw [H0, HR1.out, HR2.out, aeGo, hX])
                have HX := Lib.hid hX
                have hln := (artUp_len HR1.out).trans (artUp_len HR2.out).symm
                have HLN := Lib.hid hln
                clear hX H0 hln
                go_enter Try.func9, Try.ntmps9
                go_wp2_with fail
                refine (impl_ValidBraid_any _ _ xs B _ hs1 hB1).mono ?_
                rintro e w1 ⟨rfl, hb1⟩
                have hz1 : w.heap.size + 1 < w1.heap.size := by have := hb1.size; simp at this; omega
                have K1 := keep4 hb1 (by simp; omega) (by simp) K0
                have hw1 := hA.trans (hb1.mono hA.size)
                clear K0 j0 j1 j2 j3
                obtain ⟨j0, j1, j2, j3⟩ := id K1
                go_wp2_with fail
                refine (impl_ValidBraid_any _ _ ys B _ (h2.below hw1 hB) (Nat.le_trans hB hw1.size)).mono ?_
                rintro e w2 ⟨rfl, hb2⟩
                have hz2 : w.heap.size + 1 < w2.heap.size := Nat.lt_of_lt_of_le hz1 hb2.size
                have K2 := keep4 hb2 (by omega) hz1 K1
                have hw2 := hw1.trans (hb2.mono hw1.size)
                clear K1 j0 j1 j2 j3
                obtain ⟨j0, j1, j2, j3⟩ := id K2
                go_wp2_with fail
                refine (impl_Art_yes (xs := xs) (B := B) (h.below hw2 hB) (Nat.le_trans hB hw2.size) hok ha HR1.out).mono ?_
                rintro e w3 ⟨r1, rfl, hO1, hb3⟩
                have hw3 := hw2.trans (hb3.mono hw2.size)
                have hz3 := Nat.lt_of_lt_of_le hz2 hb3.size
                have K3 := keep4 hb3 (by omega) hz2 K2
                clear K2 j0 j1 j2 j3
                obtain ⟨j0, j1, j2, j3⟩ := id K3
                go_wp2_with fail
                refine (impl_Art_yes (xs := ys) (B := B) (h2.below hw3 hB) (Nat.le_trans hB hw3.size) hok2 hb HR2.out).mono ?_
                rintro e w4 ⟨r2, rfl, hO2, hb4⟩
                have hw4 := hw3.trans (hb4.mono hw3.size)
                go_wp2_with fail
                refine (equalSS_any _ _ rows1 rows2 w3.heap.size w4.heap.size _ ((hO1.sl fun b hb => hb.2).below hb4 (Nat.le_refl _)) (hO2.sl fun b hb => hb.2) HLN.out).mono ?_
                rintro e w5 ⟨rfl, n5, rfl⟩
                rw [HX.out]
                go_wp2_with fail
                go_ret2
                exact ⟨by rw [H1.out]; rfl, below_drewN hw4 n5⟩
          · have hbI : 16 < (ys.length : Int) := by omega
            have H1 := Lib.hid (show aeA n xs n ys = (false, 2) by simp [aeA, hok, hok2, hb])
            go_enter Try.func9, Try.ntmps9
            go_wp2_with fail
            refine (impl_ValidBraid_any _ _ xs B _ hs1 hB1).mono ?_
            rintro e w1 ⟨rfl, hb1⟩
            have hz1 : w.heap.size + 1 < w1.heap.size := by have := hb1.size; simp at this; omega
            have K1 := keep4 hb1 (by simp; omega) (by simp) K0
            have hw1 := hA.trans (hb1.mono hA.size)
            clear K0 j0 j1 j2 j3
            obtain ⟨j0, j1, j2, j3⟩ := id K1
            go_wp2_with fail
            refine (impl_ValidBraid_any _ _ ys B _ (h2.below hw1 hB) (Nat.le_trans hB hw1.size)).mono ?_
            rintro e w2 ⟨rfl, hb2⟩
            have hz2 : w.heap.size + 1 < w2.heap.size := Nat.lt_of_lt_of_le hz1 hb2.size
            have K2 := keep4 hb2 (by omega) hz1 K1
            have hw2 := hw1.trans (hb2.mono hw1.size)
            clear K1 j0 j1 j2 j3
            obtain ⟨j0, j1, j2, j3⟩ := id K2
            go_wp2_with fail
            go_ret2
            exact ⟨by rw [H1.out]; rfl, hw2⟩
        · have haI : 16 < (xs.length : Int) := by omega
          have H1 := Lib.hid (show aeA n xs n ys = (false, 2) by simp [aeA, hok, hok2, ha])
          go_enter Try.func9, Try.ntmps9
          go_wp2_with fail
          refine (impl_ValidBraid_any _ _ xs B _ hs1 hB1).mono ?_
          rintro e w1 ⟨rfl, hb1⟩
          have hz1 : w.heap.size + 1 < w1.heap.size := by have := hb1.size; simp at this; omega
          have K1 := keep4 hb1 (by simp; omega) (by simp) K0
          have hw1 := hA.trans (hb1.mono hA.size)
          clear K0 j0 j1 j2 j3
          obtain ⟨j0, j1, j2, j3⟩ := id K1
          go_wp2_with fail
          refine (impl_ValidBraid_any _ _ ys B _ (h2.below hw1 hB) (Nat.le_trans hB hw1.size)).mono ?_
          rintro e w2 ⟨rfl, hb2⟩
          have hz2 : w.heap.size + 1 < w2.heap.size := Nat.lt_of_lt_of_le hz1 hb2.size
          have K2 := keep4 hb2 (by omega) hz1 K1
          have hw2 := hw1.trans (hb2.mono hw1.size)
          clear K1 j0 j1 j2 j3
          obtain ⟨j0, j1, j2, j3⟩ := id K2
          go_wp2_with fail
          go_ret2
          exact ⟨by rw [H1.out]; rfl, hw2⟩
      · have hsb : (s != t) = true := by simp [hst]
        have H1 := Lib.hid (show aeA s xs t ys = (false, 6) by simp [aeA, hok, hok2, hst])
        clear hst
        go_enter Try.func9, Try.ntmps9
        go_wp2_with fail
        refine (impl_ValidBraid_any _ _ xs B _ hs1 hB1).mono ?_
        rintro e w1 ⟨rfl, hb1⟩
        have hz1 : w.heap.size + 1 < w1.heap.size := by have := hb1.size; simp at this; omega
        have K1 := keep4 hb1 (by simp; omega) (by simp) K0
        have hw1 := hA.trans (hb1.mono hA.size)
        clear K0 j0 j1 j2 j3
        obtain ⟨j0, j1, j2, j3⟩ := id K1
        go_wp2_with fail
        refine (impl_ValidBraid_any _ _ ys B _ (h2.below hw1 hB) (Nat.le_trans hB hw1.size)).mono ?_
        rintro e w2 ⟨rfl, hb2⟩
        have hz2 : w.heap.size + 1 < w2.heap.size := Nat.lt_of_lt_of_le hz1 hb2.size
        have K2 := keep4 hb2 (by omega) hz1 K1
        have hw2 := hw1.trans (hb2.mono hw1.size)
        clear K1 j0 j1 j2 j3
        obtain ⟨j0, j1, j2, j3⟩ := id K2
        go_wp2_with fail
        go_ret2
        exact ⟨by rw [H1.out]; rfl, hw2⟩
end Go.Proofs.Ytcinnbkhnonijaa
