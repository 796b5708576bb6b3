/-
  Contracts: CarriersUsed of the reference and of the program.
-/
import Derived.Test.YtgmppfhokfifgaaPrg
import Derived.Test.YtgmppfhokfifgaaGmb
import Derived.Test.YtgmppfhokfifgaaCpt
namespace Go.Proofs.Ytgmppfhokfifgaa
set_option maxRecDepth 10000
open Go.RowKit

def cuUp (os : List (List Int)) : Nat → List Int
  | 0 => []
  | k + 1 => if 0 < gi (gl os k) 6 then putI (cuUp os k) (gi (gl os k) 6) else cuUp os k
def caUp (os : List (List Int)) : Nat → List Int
  | 0 => []
  | k + 1 => if 0 < gi (gl os k) 6 then caUp os k ++ [gi (gl os k) 6] else caUp os k
def cuA (os : List (List Int)) : List Int := if okOps 24 os = true then cuUp os os.length else []
theorem cuUp_yes {os : List (List Int)} {k : Nat} (h : 0 < gi (gl os k) 6) : cuUp os (k + 1) = putI (cuUp os k) (gi (gl os k) 6) := if_pos h
theorem cuUp_no {os : List (List Int)} {k : Nat} (h : ¬ 0 < gi (gl os k) 6) : cuUp os (k + 1) = cuUp os k := if_neg h
theorem caUp_yes {os : List (List Int)} {k : Nat} (h : 0 < gi (gl os k) 6) : caUp os (k + 1) = caUp os k ++ [gi (gl os k) 6] := if_pos h
theorem caUp_no {os : List (List Int)} {k : Nat} (h : ¬ 0 < gi (gl os k) 6) : caUp os (k + 1) = caUp os k := if_neg h
theorem caUp_len (os : List (List Int)) (k : Nat) : (caUp os k).length ≤ k := by
  induction k with
  | zero => simp [caUp]
  | succ k ih =>
    by_cases h : 0 < gi (gl os k) 6
    · rw [caUp_yes h]; simp; omega
    · rw [caUp_no h]; omega
theorem ca_cu (os : List (List Int)) (k : Nat) : putAll [] (caUp os k) = cuUp os k := by
  induction k with
  | zero => simp [caUp, cuUp, putAll]
  | succ k ih =>
    by_cases h : 0 < gi (gl os k) 6
    · rw [caUp_yes h, cuUp_yes h, ← ih]; simp [putAll]
    · rw [caUp_no h, cuUp_no h, ih]
theorem Ow.ptr {w : World} {lo hi : Nat} {v : Value} {xs : List Int} (h : Ow w lo hi v xs) (hn : v ≠ .slice none 0 0) : ∃ g cap, v = .slice (some ⟨g, 0, none⟩) xs.length cap ∧ lo ≤ g ∧ g < hi := by
  rcases h.form with ⟨e, -⟩ | ⟨g, cap, e, h1, h2, -⟩
  · exact absurd e hn
  · exact ⟨g, cap, e, h1, h2⟩
theorem ow_of_rwI {w : World} {lo hi : Nat} {v : Value} {xs : List Int} (h : (rw_ v xs).p w (fun k => lo ≤ k ∧ k < hi)) : Ow w lo hi v xs := by
  obtain ⟨⟨h1, h2⟩, h3⟩ := h
  refine ⟨⟨h1, ?_⟩, fun g hg => (h3 g hg).2⟩
  rcases h2 with h2 | ⟨g, cap, cur, rfl, -, r⟩
  · exact .inl h2
  · exact .inr ⟨g, cap, cur, rfl, (h3 g rfl).1, r⟩
theorem nn_of_len {w : World} {lo hi : Nat} {v : Value} {xs : List Int} (h : Ow w lo hi v xs) (hp : 0 < xs.length) : v ≠ .slice none 0 0 := by
  rintro rfl
  rcases h.form with ⟨-, e⟩ | ⟨g, cap, e, -⟩
  · subst e; simp at hp
  · cases e
set_option maxHeartbeats 1600000 in
theorem impl_CarriersUsed_any (v : Value) (os : List (List Int)) (B : Nat) (w : World) (h : SlR 8 w B v os) (hB : B ≤ w.heap.size) :
    Calls Try.prog 12 #[v] w fun e w' => ∃ r, e = .returned r ∧ Ow w' w.heap.size w'.heap.size r (cuA os) ∧ Below w.heap.size w w' := by
  obtain ⟨A, c, rfl, hl, hm, -, hcells⟩ := id h
  unfold maxLen at hm
  have HC := Lib.hid hcells
  clear hcells
  cases hok : okOps 24 os
  · have HE := Lib.hid (show cuA os = [] by simp [cuA, hok])
    go_enter Try.func12, Try.ntmps12
    go_wp2_with (go_at_call 17; refine (is_below hok (validFor_any 24 _ os B _ h hB)).mono ?_; rintro e w1 ⟨rfl, hb⟩)
    go_ret
    exact ⟨_, rfl, by rw [HE.out]; exact Ow.nil _ _ _, hb⟩
  · have HE := Lib.hid (show cpt (srt (caUp os os.length)) = cuA os by rw [cpt_srt, ca_cu]; simp [cuA, hok])
    have HK := Lib.hid hok
    have hl15 : os.length ≤ 1500 := (okOps_parts hok).2.1
    go_enter Try.func12, Try.ntmps12
    go_wp2_with fail
    refine (is_below hok (validFor_any 24 _ os B _ h hB)).mono ?_
    rintro e w1 ⟨rfl, hb⟩
    have hO0 := (Ow.empty w1).mono hb.size (Nat.le_refl _)
    have hb0 := hb.trans ((al1 w1 (.cells #[] 2)).mono hb.size)
    have hn0 : Hid ((Value.slice (some ⟨w1.heap.size, 0, none⟩) 0 0) ≠ .slice none 0 0) := Lib.hid (by simp)
    clear hb
    go_wp2_with fail
    go_loopw [3, 12] (fun x i wr => ∃ k : Nat, k ≤ os.length ∧ i = .int .i64 k ∧ Ow wr w.heap.size wr.heap.size x (caUp os k) ∧ Hid (x ≠ .slice none 0 0) ∧ Below w.heap.size w wr) (fun _ i _ => os.length - (intOf i).toNat)
    case atStart => exact ⟨0, Nat.zero_le _, rfl, hO0, hn0, hb0⟩
    case round =>
      obtain ⟨k, hk, rfl, hO, HN, hb1⟩ := hrel
      clear hO0 hb0 hn0
      have HO := Lib.hid hO
      have HB := Lib.hid hb1
      have hz := hb1.size
      clear hO hb1
      by_cases hlt : k < os.length
      · obtain ⟨b, off, rfl, hbB, hcell⟩ := HC.out (by omega)
        obtain ⟨q0, q1, q2, q3, q4, q5, q6, q7⟩ := opAt_of (fun j hj => (show wr.cell? ⟨b, off + k * 8 + j, none⟩ = some (.int .i64 (gi (gl os k) j)) by rw [HB.out.cell (by simp only; omega)]; exact hcell k hlt j hj))
        obtain ⟨-, -, -, -, -, -, ⟨x1, x2⟩, -⟩ := op_bds ((okOps_parts HK.out).2.2 k hlt).1
        have hln := caUp_len os k
        have ha := al1 wr (.cells #[.int .i64 (gi (gl os k) 0), .int .i64 (gi (gl os k) 1), .int .i64 (gi (gl os k) 2), .int .i64 (gi (gl os k) 3), .int .i64 (gi (gl os k) 4), .int .i64 (gi (gl os k) 5), .int .i64 (gi (gl os k) 6), .int .i64 (gi (gl os k) 7)] 54)
        have HA := Lib.hid (HB.out.trans (ha.mono hz))
        have HO2 := Lib.hid ((HO.out.below ha (Nat.le_refl _)).mono (Nat.le_refl _) ha.size)
        clear hcell ha
        by_cases hc : 0 < gi (gl os k) 6
        · have HS := Lib.hid (caUp_yes hc)
          have hne : (gi (gl os k) 6 != 0) = true := by simp; omega
          generalize caUp os k = acc at *
          generalize gi (gl os k) 6 = x at *
          go_wp2_with (at_builtin; refine wpList_append_cell rfl _ _ rfl _ w.heap.size _ _ acc x _ rfl rfl (by simp) (HO2.out.al (Nat.le_refl _) _) (by simp; omega) (by omega) ?_; intro v2 w2 hO2 hg2 _; have hb2 := Below.trans (HA.out.alloc (by simp; omega) _) (Ow.grown (HO2.out.al (Nat.le_refl _) _) hg2 (Nat.le_refl _) (by simp; omega)))
          have HN2 := Lib.hid (nn_of_len hO2 (by simp))
          go_roundw
          case rel => exact ⟨k + 1, by omega, by go_num, by rw [HS.out]; exact hO2, HN2, hb2⟩
          case measure => simp [intOf]; omega
        · have HS := Lib.hid (caUp_no hc)
          have he0 : gi (gl os k) 6 = 0 := by omega
          have hne : (gi (gl os k) 6 != 0) = false := by simp [he0]
          clear he0
          generalize caUp os k = acc at *
          generalize gi (gl os k) 6 = x at *
          go_wp2_with fail
          go_roundw
          case rel => exact ⟨k + 1, by omega, by go_num, by rw [HS.out]; exact HO2.out, HN, HA.out⟩
          case measure => simp [intOf]; omega
      · obtain rfl : k = os.length := by omega
        have hln := caUp_len os os.length
        obtain ⟨g, cap, rfl, hlo, hhi⟩ := HO.out.ptr HN.out
        have HR := Lib.hid (rw_of_ow HO.out)
        go_wp2_with fail
        refine (sort_own HR.out (fun j q => q.2) (by omega)).mono ?_
        rintro e w3 ⟨rfl, hr3, hc3⟩
        have HR3 := Lib.hid hr3
        have HC3 := Lib.hid hc3
        have hz3 := hc3.size
        have hsl := srt_len (caUp os os.length)
        clear hr3 hc3
        go_wp2_with fail
        rw [← srt_len]
        rw [← srt_len] at HR3
        refine (compact_own HR3.out (by omega)).mono ?_
        rintro e w4 ⟨rfl, hr4, hc4⟩
        have HR4 := Lib.hid hr4
        have HC4 := Lib.hid (HC3.out.trans hc4)
        have hz4 := HC4.out.size
        clear hr4 hc4
        go_wp2_with fail
        go_ret
        exact ⟨_, rfl, by rw [← HE.out]; exact (ow_of_rwI HR4.out).mono (Nat.le_refl _) hz4, HB.out.trans (HC4.out.below (fun j q => q.1) hz)⟩
end Go.Proofs.Ytgmppfhokfifgaa
