/-
  Contracts: MirrorProgram and ShiftProgram of the reference.
-/
import Derived.Test.YtpiodiliifnckaaPo5
namespace Go.Proofs.Ytpiodiliifnckaa
set_option maxRecDepth 10000
open Go.RowKit

def mixM (f : List Int → List Int) (os : List (List Int)) (k : Nat) : List (List Int) := (os.take k).map f ++ os.drop k
theorem mixM_zero (f : List Int → List Int) (os : List (List Int)) : mixM f os 0 = os := by simp [mixM]
theorem mixM_all (f : List Int → List Int) (os : List (List Int)) : mixM f os os.length = os.map f := by simp [mixM]
theorem mixM_len (f : List Int → List Int) (os : List (List Int)) (k : Nat) : (mixM f os k).length = os.length := by simp [mixM]; omega
theorem mixM_gl (f : List Int → List Int) (os : List (List Int)) (k : Nat) (h : k < os.length) : gl (mixM f os k) k = gl os k := by
  rw [gl_eq (by rw [mixM_len]; exact h), gl_eq h]
  simp only [mixM]
  rw [List.getElem_append_right (by simp; omega)]
  simp [Nat.min_eq_left (Nat.le_of_lt h)]
theorem mixM_set (f : List Int → List Int) (os : List (List Int)) (k : Nat) (h : k < os.length) : (mixM f os k).set k (f (gl os k)) = mixM f os (k + 1) := by
  have hl : ((os.take k).map f).length = k := by simp; omega
  rw [mixM, mixM, drop_gl h, List.set_append_right _ _ (by omega), hl, Nat.sub_self, List.set_cons_zero, take_gl h, List.map_append, List.append_assoc]
  rfl
def mpA (w : Int) (os : List (List Int)) : List (List Int) × Int := if okOps w os = true then (os.map (mirO w), 0) else ([], 1)
/-- Two numbers of an element laid anew. -/
theorem OwT.set2 {s : Nat} {e : TypeId} {w : World} {lo hi : Nat} {g n cap : Nat} {os : List (List Int)} (h : OwT s e w lo hi (.slice (some ⟨g, 0, none⟩) n cap) os) (hn : os.length = n) (k i j : Nat) (hk : k < os.length) (hi' : i < s) (hj : j < s) (x y : Int) :
    OwT s e ((w.setCell ⟨g, k * s + i, none⟩ (.int .i64 x)).setCell ⟨g, k * s + j, none⟩ (.int .i64 y)) lo hi (.slice (some ⟨g, 0, none⟩) n cap) (os.set k (((gl os k).set i x).set j y)) ∧ Chg lo hi w ((w.setCell ⟨g, k * s + i, none⟩ (.int .i64 x)).setCell ⟨g, k * s + j, none⟩ (.int .i64 y)) := by
  obtain ⟨-, -, o0, d0⟩ := h.set1 hn k i hk hi' x
  obtain ⟨-, -, o1, d1⟩ := o0.set1 (by simpa using hn) k j (by simpa using hk) hj y
  rw [gl_set hk, List.set_set] at o1
  exact ⟨o1, d0.trans d1⟩
set_option maxHeartbeats 3200000 in
theorem spec_MirrorProgram_any (n : Int) (v : Value) (os : List (List Int)) (B : Nat) (w : World) (h : SlR 8 w B v os) (hB : B ≤ w.heap.size) :
    Calls Try.prog 22 #[.int .i64 n, v] w fun e w' => ∃ r, e = .returned (.tuple #[r, .int .i64 (mpA n os).2]) ∧ OwT 8 52 w' w.heap.size w'.heap.size r (mpA n os).1 ∧ Below w.heap.size w w' := by
  cases hok : okOps n os
  · have HE := Lib.hid (show mpA n os = ([], 1) by simp [mpA, hok])
    go_enter Try.func22, Try.ntmps22
    go_wp2_with fail
    refine (is_below hok (l07Ops_any n _ os B _ h hB)).mono ?_
    rintro e w1 ⟨rfl, hb⟩
    go_wp2_with fail
    go_ret2
    exact ⟨_, by rw [HE.out]; rfl, by rw [HE.out]; exact OwT.nil _ _ _ _ _, hb⟩
  · have HE := Lib.hid (show mpA n os = (os.map (mirO n), 0) by simp [mpA, hok])
    have HK := Lib.hid hok
    have H8 := Lib.hid (show ∀ o ∈ os, o.length = 8 by obtain ⟨_, _, _, _, _, ⟨h8, _⟩, _⟩ := id h; exact h8)
    have h15 := (okOps_parts hok).2.1
    go_enter Try.func22, Try.ntmps22
    go_wp2_with fail
    refine (is_below hok (l07Ops_any n _ os B _ h hB)).mono ?_
    rintro e w1 ⟨rfl, hb⟩
    have hO0 := OwT.empty_ 8 52 w1
    have ha1 := al1 w1 (.cells #[] 52)
    have hs1 := (h.below hb hB).below ha1 (Nat.le_trans hB hb.size)
    go_wp2_with (at_builtin; refine wpList_append_ops rfl _ _ rfl _ _ _ _ _ _ _ _ rfl rfl hO0 hs1 (by simp) (by simp; omega) ?_; intro v2 w2 hO hg2)
    have hb2 := hb.trans ((ha1.trans (hO0.1.grown hg2 (Nat.le_refl _) (by simp))).mono hb.size)
    have hz2 : w1.heap.size ≤ w2.heap.size := Nat.le_trans ha1.size hg2.size
    rw [List.nil_append] at hO
    clear hO0 ha1 hs1 hg2
    rcases Nat.eq_zero_or_pos os.length with h0 | hp
    · obtain rfl := List.eq_nil_of_length_eq_zero h0
      obtain ⟨A2, c2, rfl, -⟩ := id (hO.sl (Nat.le_refl _))
      go_wp2_with fail
      go_loopw [7] (fun i wr => i = .int .i64 0 ∧ wr = w2) (fun i _ => 0)
      case atStart => exact ⟨rfl, rfl⟩
      case round =>
        obtain ⟨rfl, rfl⟩ := hrel
        go_wp2_with fail
        go_ret2
        exact ⟨_, by rw [HE.out]; rfl, by rw [HE.out]; exact hO.mono hb.size (Nat.le_refl _), hb2⟩
    · obtain ⟨g, cap, rfl, hg1, hg2⟩ := hO.shape hp
      go_wp2_with fail
      go_loopw [7] (fun i wr => ∃ k : Nat, k ≤ os.length ∧ i = .int .i64 k ∧ OwT 8 52 wr w1.heap.size w2.heap.size (.slice (some ⟨g, 0, none⟩) os.length cap) (mixM (mirO n) os k) ∧ Below w.heap.size w wr ∧ w2.heap.size ≤ wr.heap.size) (fun i _ => os.length - (intOf i).toNat)
      case atStart => exact ⟨0, Nat.zero_le _, rfl, by rw [mixM_zero]; exact hO, hb2, Nat.le_refl _⟩
      case round =>
        obtain ⟨k, hk, rfl, hO, hb3, hz3⟩ := hrel
        by_cases hlt : k < os.length
        · have hml := mixM_len (mirO n) os k
          have hgl := mixM_gl (mirO n) os k hlt
          obtain ⟨hn, -, hall⟩ := okOps_parts HK.out
          obtain ⟨-, ⟨x1, x1'⟩, -, x3, -, x5, -, ⟨x7, x7'⟩⟩ := op_bds (hall k hlt).1
          have hset : ∀ (W : World), OwT 8 52 W w1.heap.size w2.heap.size (.slice (some ⟨g, 0, none⟩) os.length cap) (mixM (mirO n) os k) → ∀ j, j < 8 → W.cell? ⟨g, k * 8 + j, none⟩ = some (.int .i64 (gi (gl os k) j)) ∧ W.frozen? ⟨g, k * 8 + j, none⟩ = false := fun W hW j hj => by
            have := hW.set1 hml k j (by rw [hml]; exact hlt) hj 0
            rw [hgl] at this
            exact ⟨this.1, this.2.1⟩
          have HSET := Lib.hid hset
          obtain ⟨q2, -⟩ := hset _ hO 2 (by omega)
          obtain ⟨q3, -⟩ := hset _ hO 3 (by omega)
          clear hset
          go_wp2_with fail
          refine (l08Mirror_any _ _ n _ x3 hn).mono ?_
          rintro e w3 ⟨rfl, hq⟩
          have hO3 := hO.below hq hz3
          have hb4 := hb3.trans (hq.mono hb3.size)
          have hz4 := Nat.le_trans hz3 hq.size
          obtain ⟨t1, u1⟩ := HSET.out _ hO3 1 (by omega)
          obtain ⟨t2, u2⟩ := HSET.out _ hO3 2 (by omega)
          obtain ⟨t3, u3⟩ := HSET.out _ hO3 3 (by omega)
          obtain ⟨t4, u4⟩ := HSET.out _ hO3 4 (by omega)
          obtain ⟨t5, u5⟩ := HSET.out _ hO3 5 (by omega)
          obtain ⟨t7, u7⟩ := HSET.out _ hO3 7 (by omega)
          go_wp2_with fail
          obtain ⟨S1, hS1⟩ : ∃ S, S = ((gl os k).set 2 (gi (gl os k) 2)).set 3 (mirN n (gi (gl os k) 2) (gi (gl os k) 3)) := ⟨_, rfl⟩
          obtain ⟨o4, d4⟩ := OwT.set2 hO3 hml k 2 3 (by rw [hml]; exact hlt) (by omega) (by omega) (gi (gl os k) 2) (mirN n (gi (gl os k) 2) (gi (gl os k) 3))
          rw [hgl, ← hS1] at o4
          have o4' : OwT 8 52 ((w3.setCell ⟨g, k * 8 + 2, none⟩ (.int .i64 (gi (gl os k) 2))).setCell ⟨g, k * 8 + 2 + 1, none⟩ (.int .i64 (mirN n (gi (gl os k) 2) (gi (gl os k) 3)))) w1.heap.size w2.heap.size (.slice (some ⟨g, 0, none⟩) os.length cap) ((mixM (mirO n) os k).set k S1) := o4
          have d4' : Chg w1.heap.size w2.heap.size w3 ((w3.setCell ⟨g, k * 8 + 2, none⟩ (.int .i64 (gi (gl os k) 2))).setCell ⟨g, k * 8 + 2 + 1, none⟩ (.int .i64 (mirN n (gi (gl os k) 2) (gi (gl os k) 3)))) := d4
          clear o4 d4 t1 t2 t3 t4 t5 t7 u1 u2 u3 u4 u5 u7
          generalize (w3.setCell ⟨g, k * 8 + 2, none⟩ (.int .i64 (gi (gl os k) 2))).setCell ⟨g, k * 8 + 2 + 1, none⟩ (.int .i64 (mirN n (gi (gl os k) 2) (gi (gl os k) 3))) = W4 at *
          have hb5 := hb4.trans (d4'.below hb.size hb4.size)
          have hz5 := Nat.le_trans hz4 d4'.size
          refine (l08Mirror_any _ _ n _ x5 hn).mono ?_
          rintro e w5 ⟨rfl, hq5⟩
          have hO5 := o4'.below hq5 hz5
          have hb6 := hb5.trans (hq5.mono hb5.size)
          have hz6 := Nat.le_trans hz5 hq5.size
          have hkm : k < (mixM (mirO n) os k).length := by rw [hml]; exact hlt
          have hml5 : ((mixM (mirO n) os k).set k S1).length = os.length := by rw [List.length_set, hml]
          have e1 : gl ((mixM (mirO n) os k).set k S1) k = S1 := gl_set hkm S1
          have hset : ∀ j, j < 8 → w5.cell? ⟨g, k * 8 + j, none⟩ = some (.int .i64 (gi S1 j)) ∧ w5.frozen? ⟨g, k * 8 + j, none⟩ = false := fun j hj => by
            have := hO5.set1 hml5 k j (by rw [hml5]; exact hlt) hj 0
            rw [e1] at this
            exact ⟨this.1, this.2.1⟩
          obtain ⟨t1, u1⟩ := hset 1 (by omega)
          obtain ⟨t4, u4⟩ := hset 4 (by omega)
          obtain ⟨t5, u5⟩ := hset 5 (by omega)
          obtain ⟨t7, u7⟩ := hset 7 (by omega)
          rw [show gi S1 1 = gi (gl os k) 1 by rw [hS1, gi_set_ne (show 3 ≠ 1 by decide), gi_set_ne (show 2 ≠ 1 by decide)]] at t1
          rw [show gi S1 7 = gi (gl os k) 7 by rw [hS1, gi_set_ne (show 3 ≠ 7 by decide), gi_set_ne (show 2 ≠ 7 by decide)]] at t7
          obtain ⟨S2, hS2⟩ : ∃ S, S = (S1.set 4 (gi (gl os k) 4)).set 5 (mirN n (gi (gl os k) 4) (gi (gl os k) 5)) := ⟨_, rfl⟩
          obtain ⟨o6, d6⟩ := OwT.set2 hO5 hml5 k 4 5 (by rw [hml5]; exact hlt) (by omega) (by omega) (gi (gl os k) 4) (mirN n (gi (gl os k) 4) (gi (gl os k) 5))
          rw [e1, ← hS2, List.set_set] at o6
          have e2 : gl ((mixM (mirO n) os k).set k S2) k = S2 := gl_set hkm S2
          obtain ⟨o7, d7⟩ := OwT.set2 o6 (by rw [List.length_set, hml]) k 1 7 (by rw [List.length_set, hml]; exact hlt) (by omega) (by omega) (-gi (gl os k) 1) (-gi (gl os k) 7)
          rw [e2, List.set_set] at o7
          have hrow : (S2.set 1 (-gi (gl os k) 1)).set 7 (-gi (gl os k) 7) = mirO n (gl os k) := by
            rw [hS2, hS1]
            have h8 := H8.out _ (gl_mem hlt)
            generalize gl os k = o at h8
            match o, h8 with
            | [b0, b1, b2, b3, b4, b5, b6, b7], _ => rfl
          rw [hrow, mixM_set _ _ _ hlt] at o7
          have HO7 := Lib.hid o7
          have HD7 := Lib.hid (d6.trans d7)
          clear o6 d6 o7 d7 hrow hset hS1 hS2 e1 e2
          go_wp2_with fail
          go_roundw
          case rel =>
            simp only [Nat.add_assoc, Nat.reduceAdd]
            exact ⟨k + 1, by omega, by go_num, HO7.out, hb6.trans (HD7.out.below hb.size hb6.size), Nat.le_trans hz6 HD7.out.size⟩
          case measure => simp [intOf]; omega
        · obtain rfl : k = os.length := by omega
          rw [mixM_all] at hO
          go_wp2_with fail
          go_ret2
          exact ⟨_, by rw [HE.out]; rfl, by rw [HE.out]; exact hO.mono hb.size hz3, hb3⟩
end Go.Proofs.Ytpiodiliifnckaa
