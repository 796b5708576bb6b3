/-
  Contract: ShiftProgram of the reference.
-/
import Derived.Test.YtpiodiliifnckaaMir
namespace Go.Proofs.Ytpiodiliifnckaa
set_option maxRecDepth 10000
open Go.RowKit

def clampN (m : Int) : Int := max (-24) (min m 24)
def spB (n : Int) (os : List (List Int)) : List (List Int) × Int := if okOps n os = true then (os, 0) else ([], 2)
def spA (n : Int) (os : List (List Int)) (m : Int) : List (List Int) × Int := if okOps n os = true then spB n (os.map (mapO (movN (clampN m)))) else ([], 1)
set_option maxHeartbeats 3200000 in
theorem spec_ShiftProgram_any (n : Int) (v : Value) (os : List (List Int)) (m : Int) (B : Nat) (w : World) (h : SlR 8 w B v os) (hB : B ≤ w.heap.size) :
    Calls Try.prog 25 #[.int .i64 n, v, .int .i64 m] w fun e w' => ∃ r, e = .returned (.tuple #[r, .int .i64 (spA n os m).2]) ∧ OwT 8 52 w' w.heap.size w'.heap.size r (spA n os m).1 ∧ Below w.heap.size w w' := by
  cases hok : okOps n os
  · have HE := Lib.hid (show spA n os m = ([], 1) by simp [spA, hok])
    go_enter Try.func25, Try.ntmps25
    go_wp2_with fail
    refine (is_below hok (l07Ops_any n _ os B _ h hB)).mono ?_
    rintro e w1 ⟨rfl, hb⟩
    go_wp2_with fail
    go_ret2
    exact ⟨_, by rw [HE.out]; rfl, by rw [HE.out]; exact OwT.nil _ _ _ _ _, hb⟩
  · have HE := Lib.hid (show spA n os m = spB n (os.map (mapO (movN (clampN m)))) by simp [spA, hok])
    have HK := Lib.hid hok
    have H8 := Lib.hid (show ∀ o ∈ os, o.length = 8 by obtain ⟨_, _, _, _, _, ⟨h8, _⟩, _⟩ := id h; exact h8)
    have h15 := (okOps_parts hok).2.1
    go_enter Try.func25, Try.ntmps25
    go_wp2_with fail
    refine (is_below hok (l07Ops_any n _ os B _ h hB)).mono ?_
    rintro e w1 ⟨rfl, hb⟩
    have hf : -24 ≤ clampN m ∧ clampN m ≤ 24 := by unfold clampN; omega
    have HCL := Lib.hid (show max (-24) (min m 24) = clampN m from rfl)
    generalize clampN m = f at *
    go_wp2_with fail
    refine (l00Min_any _ _ _).mono ?_
    rintro e w' ⟨rfl, rfl⟩
    go_wp2_with fail
    refine (int_same HCL.out (l00Max_any _ _ _)).mono ?_
    rintro e w' ⟨rfl, rfl⟩
    have hO0 := OwT.empty_ 8 52 w1
    have ha1 := al1 w1 (.cells #[] 52)
    have hs1 := (h.below hb hB).below ha1 (Nat.le_trans hB hb.size)
    go_wp2_with (at_builtin; refine wpList_append_ops rfl _ _ rfl _ _ _ _ _ _ _ _ rfl rfl hO0 hs1 (by simp) (by simp; omega) ?_; intro v2 w2 hO hg2)
    have hb2 := hb.trans ((ha1.trans (hO0.1.grown hg2 (Nat.le_refl _) (by simp))).mono hb.size)
    have hz2 : w1.heap.size ≤ w2.heap.size := Nat.le_trans ha1.size hg2.size
    rw [List.nil_append] at hO
    clear hO0 ha1 hs1 hg2
    rcases Nat.eq_zero_or_pos os.length with h0 | hp
    · obtain rfl := List.eq_nil_of_length_eq_zero h0
      obtain ⟨A2, c2, rfl, -⟩ := id (hO.sl (Nat.le_refl _))
      go_wp2_with fail
      go_loopw [9] (fun i wr => i = .int .i64 0 ∧ wr = w2) (fun i _ => 0)
      case atStart => exact ⟨rfl, rfl⟩
      case round =>
        obtain ⟨rfl, rfl⟩ := hrel
        go_wp2_with fail
        refine (l07Ops_any n _ _ _ _ (hO.sl (Nat.le_refl _)) (Nat.le_refl _)).mono ?_
        rintro e w9 ⟨rfl, hb9⟩
        cases hok2 : okOps n ([] : List (List Int))
        · have HF := Lib.hid (show spB n ([] : List (List Int)) = ([], 2) by simp [spB, hok2])
          go_wp2_with fail
          go_ret2
          exact ⟨_, by rw [HE.out]; simp only [List.map_nil]; rw [HF.out]; rfl, by rw [HE.out]; simp only [List.map_nil]; rw [HF.out]; exact OwT.nil _ _ _ _ _, hb2.trans (hb9.mono hb2.size)⟩
        · have HF := Lib.hid (show spB n ([] : List (List Int)) = ([], 0) by simp [spB, hok2])
          go_wp2_with fail
          go_ret2
          exact ⟨_, by rw [HE.out]; simp only [List.map_nil]; rw [HF.out]; rfl, by rw [HE.out]; simp only [List.map_nil]; rw [HF.out]; exact (hO.below hb9 (Nat.le_refl _)).mono hb.size hb9.size, hb2.trans (hb9.mono hb2.size)⟩
    · obtain ⟨g, cap, rfl, hg1, hg2⟩ := hO.shape hp
      go_wp2_with fail
      go_loopw [9] (fun i wr => ∃ k : Nat, k ≤ os.length ∧ i = .int .i64 k ∧ OwT 8 52 wr w1.heap.size w2.heap.size (.slice (some ⟨g, 0, none⟩) os.length cap) (mixM (mapO (movN f)) os k) ∧ Below w.heap.size w wr ∧ w2.heap.size ≤ wr.heap.size) (fun i _ => os.length - (intOf i).toNat)
      case atStart => exact ⟨0, Nat.zero_le _, rfl, by rw [mixM_zero]; exact hO, hb2, Nat.le_refl _⟩
      case round =>
        obtain ⟨k, hk, rfl, hO, hb3, hz3⟩ := hrel
        by_cases hlt : k < os.length
        · have hml := mixM_len (mapO (movN f)) os k
          have hgl := mixM_gl (mapO (movN f)) os k hlt
          obtain ⟨hn, -, hall⟩ := okOps_parts HK.out
          obtain ⟨-, ⟨x1, x1'⟩, -, x3, -, x5, -, ⟨x7, x7'⟩⟩ := op_bds (hall k hlt).1
          have hset : ∀ (W : World), OwT 8 52 W w1.heap.size w2.heap.size (.slice (some ⟨g, 0, none⟩) os.length cap) (mixM (mapO (movN f)) os k) → ∀ j, j < 8 → W.cell? ⟨g, k * 8 + j, none⟩ = some (.int .i64 (gi (gl os k) j)) ∧ W.frozen? ⟨g, k * 8 + j, none⟩ = false := fun W hW j hj => by
            have := hW.set1 hml k j (by rw [hml]; exact hlt) hj 0
            rw [hgl] at this
            exact ⟨this.1, this.2.1⟩
          have HSET := Lib.hid hset
          obtain ⟨q2, -⟩ := hset _ hO 2 (by omega)
          obtain ⟨q3, -⟩ := hset _ hO 3 (by omega)
          clear hset
          go_wp2_with fail
          refine (l08Moved_any _ _ f _ x3 hf).mono ?_
          rintro e w3 ⟨rfl, hq⟩
          have hO3 := hO.below hq hz3
          have hb4 := hb3.trans (hq.mono hb3.size)
          have hz4 := Nat.le_trans hz3 hq.size
          obtain ⟨t1, u1⟩ := HSET.out _ hO3 1 (by omega)
          obtain ⟨t2, u2⟩ := HSET.out _ hO3 2 (by omega)
          obtain ⟨t3, u3⟩ := HSET.out _ hO3 3 (by omega)
          obtain ⟨t4, u4⟩ := HSET.out _ hO3 4 (by omega)
          obtain ⟨t5, u5⟩ := HSET.out _ hO3 5 (by omega)
          obtain ⟨t7, u7⟩ := HSET.out _ hO3 7 (by omega)
          go_wp2_with fail
          obtain ⟨S1, hS1⟩ : ∃ S, S = ((gl os k).set 2 (gi (gl os k) 2)).set 3 (movN f (gi (gl os k) 2) (gi (gl os k) 3)) := ⟨_, rfl⟩
          obtain ⟨o4, d4⟩ := OwT.set2 hO3 hml k 2 3 (by rw [hml]; exact hlt) (by omega) (by omega) (gi (gl os k) 2) (movN f (gi (gl os k) 2) (gi (gl os k) 3))
          rw [hgl, ← hS1] at o4
          have o4' : OwT 8 52 ((w3.setCell ⟨g, k * 8 + 2, none⟩ (.int .i64 (gi (gl os k) 2))).setCell ⟨g, k * 8 + 2 + 1, none⟩ (.int .i64 (movN f (gi (gl os k) 2) (gi (gl os k) 3)))) w1.heap.size w2.heap.size (.slice (some ⟨g, 0, none⟩) os.length cap) ((mixM (mapO (movN f)) os k).set k S1) := o4
          have d4' : Chg w1.heap.size w2.heap.size w3 ((w3.setCell ⟨g, k * 8 + 2, none⟩ (.int .i64 (gi (gl os k) 2))).setCell ⟨g, k * 8 + 2 + 1, none⟩ (.int .i64 (movN f (gi (gl os k) 2) (gi (gl os k) 3)))) := d4
          clear o4 d4 t1 t2 t3 t4 t5 t7 u1 u2 u3 u4 u5 u7
          generalize (w3.setCell ⟨g, k * 8 + 2, none⟩ (.int .i64 (gi (gl os k) 2))).setCell ⟨g, k * 8 + 2 + 1, none⟩ (.int .i64 (movN f (gi (gl os k) 2) (gi (gl os k) 3))) = W4 at *
          have hb5 := hb4.trans (d4'.below hb.size hb4.size)
          have hz5 := Nat.le_trans hz4 d4'.size
          refine (l08Moved_any _ _ f _ x5 hf).mono ?_
          rintro e w5 ⟨rfl, hq5⟩
          have hO5 := o4'.below hq5 hz5
          have hb6 := hb5.trans (hq5.mono hb5.size)
          have hz6 := Nat.le_trans hz5 hq5.size
          have hkm : k < (mixM (mapO (movN f)) os k).length := by rw [hml]; exact hlt
          have hml5 : ((mixM (mapO (movN f)) os k).set k S1).length = os.length := by rw [List.length_set, hml]
          have e1 : gl ((mixM (mapO (movN f)) os k).set k S1) k = S1 := gl_set hkm S1
          have hset : ∀ j, j < 8 → w5.cell? ⟨g, k * 8 + j, none⟩ = some (.int .i64 (gi S1 j)) ∧ w5.frozen? ⟨g, k * 8 + j, none⟩ = false := fun j hj => by
            have := hO5.set1 hml5 k j (by rw [hml5]; exact hlt) hj 0
            rw [e1] at this
            exact ⟨this.1, this.2.1⟩
          obtain ⟨t1, u1⟩ := hset 1 (by omega)
          obtain ⟨t4, u4⟩ := hset 4 (by omega)
          obtain ⟨t5, u5⟩ := hset 5 (by omega)
          obtain ⟨t7, u7⟩ := hset 7 (by omega)
          obtain ⟨S2, hS2⟩ : ∃ S, S = (S1.set 4 (gi (gl os k) 4)).set 5 (movN f (gi (gl os k) 4) (gi (gl os k) 5)) := ⟨_, rfl⟩
          obtain ⟨o6, d6⟩ := OwT.set2 hO5 hml5 k 4 5 (by rw [hml5]; exact hlt) (by omega) (by omega) (gi (gl os k) 4) (movN f (gi (gl os k) 4) (gi (gl os k) 5))
          rw [e1, ← hS2, List.set_set] at o6
          have hrow : S2 = mapO (movN f) (gl os k) := by
            rw [hS2, hS1]
            have h8 := H8.out _ (gl_mem hlt)
            generalize gl os k = o at h8
            match o, h8 with
            | [b0, b1, b2, b3, b4, b5, b6, b7], _ => rfl
          rw [hrow, mixM_set _ _ _ hlt] at o6
          have HO7 := Lib.hid o6
          have HD7 := Lib.hid d6
          clear o6 d6 hrow hset hS1 hS2 e1
          go_wp2_with fail
          go_roundw
          case rel =>
            simp only [Nat.add_assoc, Nat.reduceAdd]
            exact ⟨k + 1, by omega, by go_num, HO7.out, hb6.trans (HD7.out.below hb.size hb6.size), Nat.le_trans hz6 HD7.out.size⟩
          case measure => simp [intOf]; omega
        · obtain rfl : k = os.length := by omega
          rw [mixM_all] at hO
          go_wp2_with fail
          refine (l07Ops_any n _ _ _ _ (hO.sl hz3) (Nat.le_refl _)).mono ?_
          rintro e w9 ⟨rfl, hb9⟩
          generalize os.map (mapO (movN f)) = os2 at *
          cases hok2 : okOps n os2
          · have HF := Lib.hid (show spB n os2 = ([], 2) by simp [spB, hok2])
            go_wp2_with fail
            go_ret2
            exact ⟨_, by rw [HE.out, HF.out]; rfl, by rw [HE.out, HF.out]; exact OwT.nil _ _ _ _ _, hb3.trans (hb9.mono hb3.size)⟩
          · have HF := Lib.hid (show spB n os2 = (os2, 0) by simp [spB, hok2])
            go_wp2_with fail
            go_ret2
            exact ⟨_, by rw [HE.out, HF.out]; rfl, by rw [HE.out, HF.out]; exact (hO.below hb9 hz3).mono hb.size (Nat.le_trans hz3 hb9.size), hb3.trans (hb9.mono hb3.size)⟩
end Go.Proofs.Ytpiodiliifnckaa
