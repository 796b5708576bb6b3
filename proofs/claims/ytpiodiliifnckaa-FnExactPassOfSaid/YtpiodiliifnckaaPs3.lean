/-
  Contracts: CountPasses and ReturnsOf of the program and of the reference.
-/
import Derived.Test.YtpiodiliifnckaaPs2
namespace Go.Proofs.Ytpiodiliifnckaa
set_option maxRecDepth 10000
open Go.RowKit Go.Sort

theorem areOps_any (v : Value) (os : List (List Int)) (B : Nat) (w : World) (h : SlR 8 w B v os) (hB : B ≤ w.heap.size) :
    Calls Try.prog 49 #[v] w fun e w' => e = .returned (.bool (okOps 24 os)) ∧ Below w.heap.size w w' := by
  go_enter Try.func49, Try.ntmps49
  go_wp2_with fail
  refine (validFor_any 24 _ os B _ h hB).mono ?_
  rintro e w1 ⟨rfl, hb⟩
  go_wp2_with fail
  go_ret
  exact ⟨rfl, hb⟩
theorem l09Ops_any (v : Value) (os : List (List Int)) (B : Nat) (w : World) (h : SlR 8 w B v os) (hB : B ≤ w.heap.size) :
    Calls Try.prog 47 #[v] w fun e w' => e = .returned (.bool (okOps 24 os)) ∧ Below w.heap.size w w' := by
  go_enter Try.func47, Try.ntmps47
  go_wp2_with fail
  refine (l07Ops_any 24 _ os B _ h hB).mono ?_
  rintro e w1 ⟨rfl, hb⟩
  go_wp2_with fail
  go_ret
  exact ⟨rfl, hb⟩
def cpA (os : List (List Int)) : Int := if okOps 24 os = true then ((psUp os os.length).1.length : Int) else -1
set_option maxHeartbeats 800000 in
theorem impl_CountPasses_any (v : Value) (os : List (List Int)) (B : Nat) (w : World) (h : SlR 8 w B v os) (hB : B ≤ w.heap.size) :
    Calls Try.prog 28 #[v] w fun e w' => e = .returned (.int .i64 (cpA os)) ∧ Below w.heap.size w w' := by
  cases hok : okOps 24 os
  · have HE := Lib.hid (show cpA os = -1 by simp [cpA, hok])
    go_enter Try.func28, Try.ntmps28
    go_wp2_with fail
    refine (is_below hok (areOps_any _ os B _ h hB)).mono ?_
    rintro e w1 ⟨rfl, hb⟩
    go_wp2_with fail
    go_ret
    exact ⟨by rw [HE.out]; rfl, hb⟩
  · have HE := Lib.hid (show cpA os = ((psUp os os.length).1.length : Int) by simp [cpA, hok])
    have hinv := (psUp_inv hok os.length (Nat.le_refl _)).len
    have h15 := (okOps_parts hok).2.1
    go_enter Try.func28, Try.ntmps28
    go_wp2_with fail
    refine (is_below hok (areOps_any _ os B _ h hB)).mono ?_
    rintro e w1 ⟨rfl, hb⟩
    go_wp2_with fail
    refine (passes_any _ os B _ (h.below hb hB) (Nat.le_trans hB hb.size) hok).mono ?_
    rintro e w2 ⟨r, rfl, hO, hb2⟩
    obtain ⟨A2, c2, rfl, -⟩ := id (hO.sl (Nat.le_refl _))
    go_wp2_with fail
    go_ret
    exact ⟨by rw [HE.out]; rfl, hb.trans (hb2.mono hb.size)⟩
set_option maxHeartbeats 800000 in
theorem spec_CountPasses_any (v : Value) (os : List (List Int)) (B : Nat) (w : World) (h : SlR 8 w B v os) (hB : B ≤ w.heap.size) :
    Calls Try.prog 27 #[v] w fun e w' => e = .returned (.int .i64 (cpA os)) ∧ Below w.heap.size w w' := by
  cases hok : okOps 24 os
  · have HE := Lib.hid (show cpA os = -1 by simp [cpA, hok])
    go_enter Try.func27, Try.ntmps27
    go_wp2_with fail
    refine (is_below hok (l09Ops_any _ os B _ h hB)).mono ?_
    rintro e w1 ⟨rfl, hb⟩
    go_wp2_with fail
    go_ret
    exact ⟨by rw [HE.out]; rfl, hb⟩
  · have HE := Lib.hid (show cpA os = ((psUp os os.length).1.length : Int) by simp [cpA, hok])
    have hinv := (psUp_inv hok os.length (Nat.le_refl _)).len
    have h15 := (okOps_parts hok).2.1
    go_enter Try.func27, Try.ntmps27
    go_wp2_with fail
    refine (is_below hok (l09Ops_any _ os B _ h hB)).mono ?_
    rintro e w1 ⟨rfl, hb⟩
    go_wp2_with fail
    refine (l09Passes_any _ os B _ (h.below hb hB) (Nat.le_trans hB hb.size) hok).mono ?_
    rintro e w2 ⟨r, rfl, hO, hb2⟩
    obtain ⟨A2, c2, rfl, -⟩ := id (hO.sl (Nat.le_refl _))
    go_wp2_with fail
    go_ret
    exact ⟨by rw [HE.out]; rfl, hb.trans (hb2.mono hb.size)⟩
/-- How many yarn passes have the direction of the one before; the last direction. -/
def roUp (ps : List (List Int)) : Nat → Int × Int
  | 0 => (0, 0)
  | k + 1 => if gi (gl ps k) 0 = 1 then ((roUp ps k).1 + (if gi (gl ps k) 1 = (roUp ps k).2 then 1 else 0), gi (gl ps k) 1) else roUp ps k
theorem roUp_bd (ps : List (List Int)) (k : Nat) : 0 ≤ (roUp ps k).1 ∧ (roUp ps k).1 ≤ k := by
  induction k with
  | zero => simp [roUp]
  | succ k ih =>
    rw [roUp]
    split
    · simp only
      split <;> omega
    · omega
def roA (os : List (List Int)) : Int × Int := if okOps 24 os = true then ((roUp (psUp os os.length).1 (psUp os os.length).1.length).1, 0) else (0, 1)
set_option maxHeartbeats 1600000 in
theorem impl_ReturnsOf_any (v : Value) (os : List (List Int)) (B : Nat) (w : World) (h : SlR 8 w B v os) (hB : B ≤ w.heap.size) :
    Calls Try.prog 30 #[v] w fun e w' => e = .returned (.tuple #[.int .i64 (roA os).1, .int .i64 (roA os).2]) ∧ Below w.heap.size w w' := by
  cases hok : okOps 24 os
  · have HE := Lib.hid (show roA os = (0, 1) by simp [roA, hok])
    go_enter Try.func30, Try.ntmps30
    go_wp2_with fail
    refine (is_below hok (areOps_any _ os B _ h hB)).mono ?_
    rintro e w1 ⟨rfl, hb⟩
    go_wp2_with fail
    go_ret2
    exact ⟨by rw [HE.out]; rfl, hb⟩
  · have HE := Lib.hid (show roA os = ((roUp (psUp os os.length).1 (psUp os os.length).1.length).1, 0) by simp [roA, hok])
    have hinv := (psUp_inv hok os.length (Nat.le_refl _)).len
    have h15 := (okOps_parts hok).2.1
    go_enter Try.func30, Try.ntmps30
    go_wp2_with fail
    refine (is_below hok (areOps_any _ os B _ h hB)).mono ?_
    rintro e w1 ⟨rfl, hb⟩
    go_wp2_with fail
    refine (passes_any _ os B _ (h.below hb hB) (Nat.le_trans hB hb.size) hok).mono ?_
    rintro e w2 ⟨r, rfl, hO, hb2⟩
    have hb3 := hb.trans (hb2.mono hb.size)
    obtain ⟨A2, c2, rfl, hl2, hm2, -, hcells⟩ := id (hO.sl (Nat.le_refl _))
    unfold maxLen at hm2
    have HC := Lib.hid hcells
    clear hcells hO
    generalize (psUp os os.length).1 = ps at *
    go_wp2_with fail
    go_loopw [4, 5, 14] (fun n l i wr => ∃ k : Nat, k ≤ ps.length ∧ i = .int .i64 k ∧ n = .int .i64 (roUp ps k).1 ∧ l = .int .i64 (roUp ps k).2 ∧ Below w.heap.size w wr ∧ Below w2.heap.size w2 wr) (fun _ _ i _ => ps.length - (intOf i).toNat)
    case atStart => exact ⟨0, Nat.zero_le _, rfl, rfl, rfl, hb3, Below.refl _ _⟩
    case round =>
      obtain ⟨k, hk, rfl, rfl, rfl, hb4, hb5⟩ := hrel
      by_cases hlt : k < ps.length
      · obtain ⟨b, off, rfl, hbB, hcell⟩ := HC.out (by omega)
        have q0 : wr.cell? ⟨b, off + k * 6, none⟩ = some (.int .i64 (gi (gl ps k) 0)) := by rw [hb5.cell (by simp only; omega)]; exact hcell k hlt 0 (by omega)
        have q1 : wr.cell? ⟨b, off + k * 6 + 1, none⟩ = some (.int .i64 (gi (gl ps k) 1)) := by rw [hb5.cell (by simp only; omega)]; exact hcell k hlt 1 (by omega)
        have q2 : wr.cell? ⟨b, off + k * 6 + 2, none⟩ = some (.int .i64 (gi (gl ps k) 2)) := by rw [hb5.cell (by simp only; omega)]; exact hcell k hlt 2 (by omega)
        have q3 : wr.cell? ⟨b, off + k * 6 + 3, none⟩ = some (.int .i64 (gi (gl ps k) 3)) := by rw [hb5.cell (by simp only; omega)]; exact hcell k hlt 3 (by omega)
        have q4 : wr.cell? ⟨b, off + k * 6 + 4, none⟩ = some (.int .i64 (gi (gl ps k) 4)) := by rw [hb5.cell (by simp only; omega)]; exact hcell k hlt 4 (by omega)
        have q5 : wr.cell? ⟨b, off + k * 6 + 5, none⟩ = some (.int .i64 (gi (gl ps k) 5)) := by rw [hb5.cell (by simp only; omega)]; exact hcell k hlt 5 (by omega)
        have hbd := roUp_bd ps k
        obtain ⟨d0, d1⟩ := hbd
        have HS := Lib.hid (show roUp ps (k + 1) = if gi (gl ps k) 0 = 1 then ((roUp ps k).1 + (if gi (gl ps k) 1 = (roUp ps k).2 then 1 else 0), gi (gl ps k) 1) else roUp ps k from rfl)
        have ha := al1 wr (.cells #[.int .i64 (gi (gl ps k) 0), .int .i64 (gi (gl ps k) 1), .int .i64 (gi (gl ps k) 2), .int .i64 (gi (gl ps k) 3), .int .i64 (gi (gl ps k) 4), .int .i64 (gi (gl ps k) 5)] 42)
        have hb6 := hb4.trans (ha.mono hb4.size)
        have hb7 := hb5.trans (ha.mono hb5.size)
        clear hcell ha
        cases h0 : (gi (gl ps k) 0 == 1)
        · have h0b : (gi (gl ps k) 0 != 1) = true := by simp [bne, h0]
          have HN := Lib.hid (show roUp ps (k + 1) = roUp ps k by rw [HS.out, if_neg (by simpa using h0)])
          go_wp2_with fail
          go_roundw
          case rel => exact ⟨k + 1, by omega, by go_num, by rw [HN.out], by rw [HN.out], hb6, hb7⟩
          case measure => simp [intOf]; omega
        · have h0b : (gi (gl ps k) 0 != 1) = false := by simp [bne, h0]
          cases h1 : (gi (gl ps k) 1 == (roUp ps k).2)
          · have HN := Lib.hid (show roUp ps (k + 1) = ((roUp ps k).1, gi (gl ps k) 1) by rw [HS.out, if_pos (by simpa using h0), if_neg (by simpa using h1), Int.add_zero])
            go_wp2_with fail
            go_roundw
            case rel => exact ⟨k + 1, by omega, by go_num, by rw [HN.out], by rw [HN.out], hb6, hb7⟩
            case measure => simp [intOf]; omega
          · have HN := Lib.hid (show roUp ps (k + 1) = ((roUp ps k).1 + 1, gi (gl ps k) 1) by rw [HS.out, if_pos (by simpa using h0), if_pos (by simpa using h1)])
            go_wp2_with fail
            go_roundw
            case rel => exact ⟨k + 1, by omega, by go_num, by rw [HN.out], by rw [HN.out], hb6, hb7⟩
            case measure => simp [intOf]; omega
      · obtain rfl : k = ps.length := by omega
        go_wp2_with fail
        go_ret2
        exact ⟨by rw [HE.out]; rfl, hb4⟩
set_option maxHeartbeats 1600000 in
theorem spec_ReturnsOf_any (v : Value) (os : List (List Int)) (B : Nat) (w : World) (h : SlR 8 w B v os) (hB : B ≤ w.heap.size) :
    Calls Try.prog 29 #[v] w fun e w' => e = .returned (.tuple #[.int .i64 (roA os).1, .int .i64 (roA os).2]) ∧ Below w.heap.size w w' := by
  cases hok : okOps 24 os
  · have HE := Lib.hid (show roA os = (0, 1) by simp [roA, hok])
    go_enter Try.func29, Try.ntmps29
    go_wp2_with fail
    refine (is_below hok (l09Ops_any _ os B _ h hB)).mono ?_
    rintro e w1 ⟨rfl, hb⟩
    go_wp2_with fail
    go_ret2
    exact ⟨by rw [HE.out]; rfl, hb⟩
  · have HE := Lib.hid (show roA os = ((roUp (psUp os os.length).1 (psUp os os.length).1.length).1, 0) by simp [roA, hok])
    have hinv := (psUp_inv hok os.length (Nat.le_refl _)).len
    have h15 := (okOps_parts hok).2.1
    go_enter Try.func29, Try.ntmps29
    go_wp2_with fail
    refine (is_below hok (l09Ops_any _ os B _ h hB)).mono ?_
    rintro e w1 ⟨rfl, hb⟩
    go_wp2_with fail
    refine (l09Passes_any _ os B _ (h.below hb hB) (Nat.le_trans hB hb.size) hok).mono ?_
    rintro e w2 ⟨r, rfl, hO, hb2⟩
    have hb3 := hb.trans (hb2.mono hb.size)
    obtain ⟨A2, c2, rfl, hl2, hm2, -, hcells⟩ := id (hO.sl (Nat.le_refl _))
    unfold maxLen at hm2
    have HC := Lib.hid hcells
    clear hcells hO
    generalize (psUp os os.length).1 = ps at *
    go_wp2_with fail
    go_loopw [5, 6, 7] (fun n l i wr => ∃ k : Nat, k ≤ ps.length ∧ i = .int .i64 k ∧ n = .int .i64 (roUp ps k).1 ∧ l = .int .i64 (roUp ps k).2 ∧ Below w.heap.size w wr ∧ Below w2.heap.size w2 wr) (fun _ _ i _ => ps.length - (intOf i).toNat)
    case atStart => exact ⟨0, Nat.zero_le _, rfl, rfl, rfl, hb3, Below.refl _ _⟩
    case round =>
      obtain ⟨k, hk, rfl, rfl, rfl, hb4, hb5⟩ := hrel
      by_cases hlt : k < ps.length
      · obtain ⟨b, off, rfl, hbB, hcell⟩ := HC.out (by omega)
        have q0 : wr.cell? ⟨b, off + k * 6, none⟩ = some (.int .i64 (gi (gl ps k) 0)) := by rw [hb5.cell (by simp only; omega)]; exact hcell k hlt 0 (by omega)
        have q1 : wr.cell? ⟨b, off + k * 6 + 1, none⟩ = some (.int .i64 (gi (gl ps k) 1)) := by rw [hb5.cell (by simp only; omega)]; exact hcell k hlt 1 (by omega)
        have q2 : wr.cell? ⟨b, off + k * 6 + 2, none⟩ = some (.int .i64 (gi (gl ps k) 2)) := by rw [hb5.cell (by simp only; omega)]; exact hcell k hlt 2 (by omega)
        have q3 : wr.cell? ⟨b, off + k * 6 + 3, none⟩ = some (.int .i64 (gi (gl ps k) 3)) := by rw [hb5.cell (by simp only; omega)]; exact hcell k hlt 3 (by omega)
        have q4 : wr.cell? ⟨b, off + k * 6 + 4, none⟩ = some (.int .i64 (gi (gl ps k) 4)) := by rw [hb5.cell (by simp only; omega)]; exact hcell k hlt 4 (by omega)
        have q5 : wr.cell? ⟨b, off + k * 6 + 5, none⟩ = some (.int .i64 (gi (gl ps k) 5)) := by rw [hb5.cell (by simp only; omega)]; exact hcell k hlt 5 (by omega)
        have hbd := roUp_bd ps k
        obtain ⟨d0, d1⟩ := hbd
        have HS := Lib.hid (show roUp ps (k + 1) = if gi (gl ps k) 0 = 1 then ((roUp ps k).1 + (if gi (gl ps k) 1 = (roUp ps k).2 then 1 else 0), gi (gl ps k) 1) else roUp ps k from rfl)
        have hb6 := hb4
        have hb7 := hb5
        clear hcell
        cases h0 : (gi (gl ps k) 0 == 1)
        · have h0b : (gi (gl ps k) 0 != 1) = true := by simp [bne, h0]
          have HN := Lib.hid (show roUp ps (k + 1) = roUp ps k by rw [HS.out, if_neg (by simpa using h0)])
          go_wp2_with fail
          go_roundw
          case rel => exact ⟨k + 1, by omega, by go_num, by rw [HN.out], by rw [HN.out], hb6, hb7⟩
          case measure => simp [intOf]; omega
        · have h0b : (gi (gl ps k) 0 != 1) = false := by simp [bne, h0]
          cases h1 : (gi (gl ps k) 1 == (roUp ps k).2)
          · have HN := Lib.hid (show roUp ps (k + 1) = ((roUp ps k).1, gi (gl ps k) 1) by rw [HS.out, if_pos (by simpa using h0), if_neg (by simpa using h1), Int.add_zero])
            go_wp2_with fail
            go_roundw
            case rel => exact ⟨k + 1, by omega, by go_num, by rw [HN.out], by rw [HN.out], hb6, hb7⟩
            case measure => simp [intOf]; omega
          · have HN := Lib.hid (show roUp ps (k + 1) = ((roUp ps k).1 + 1, gi (gl ps k) 1) by rw [HS.out, if_pos (by simpa using h0), if_pos (by simpa using h1)])
            go_wp2_with fail
            go_roundw
            case rel => exact ⟨k + 1, by omega, by go_num, by rw [HN.out], by rw [HN.out], hb6, hb7⟩
            case measure => simp [intOf]; omega
      · obtain rfl : k = ps.length := by omega
        go_wp2_with fail
        go_ret2
        exact ⟨by rw [HE.out]; rfl, hb4⟩
end Go.Proofs.Ytpiodiliifnckaa
