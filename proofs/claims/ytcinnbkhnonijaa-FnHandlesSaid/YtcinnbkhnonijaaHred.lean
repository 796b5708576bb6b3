/-
  Contracts: the word behind the reduction of a handle (the program's withoutHandle, the reference's l06Reduce).
-/
import Derived.Test.YtcinnbkhnonijaaCore
import Derived.Test.YtcinnbkhnonijaaMain2
namespace Go.Proofs.Ytcinnbkhnonijaa
set_option maxRecDepth 10000
open Go.RowKit

theorem sl_new (w : World) (ys : List Int) : Sl (w.alloc (.cells (vals ys).toArray 2)) (w.heap.size + 1) (.slice (some ⟨w.heap.size, 0, none⟩) ys.length ys.length) ys ∨ maxLen < ys.length := by
  by_cases h : ys.length ≤ maxLen
  · left
    refine ⟨_, _, rfl, Nat.le_refl _, h, by simp, fun hp => ⟨w.heap.size, 0, rfl, by omega, fun k hk => ?_⟩⟩
    rw [World.cell?_alloc_new]
    simp [vals, gi_some hk]
  · right; omega
theorem sl_three (w : World) (a b c : Int) : Sl (w.alloc (.cells #[.int .i64 a, .int .i64 b, .int .i64 c] 2)) (w.heap.size + 1) (.slice (some ⟨w.heap.size, 0, none⟩) 3 3) [a, b, c] := by
  rcases sl_new w [a, b, c] with h | h
  · exact h
  · simp [maxLen] at h
/-- What has been written when the letters ahead of place m have been seen. -/
def hPr (xs : List Int) (f m : Nat) : List Int := xs.take f ++ ((xs.drop (f + 1)).take (m - (f + 1))).flatMap (hSub (ab (gi xs f)) (sg (gi xs f)))
theorem hPr_zero (xs : List Int) (f : Nat) : hPr xs f (f + 1) = xs.take f := by simp [hPr]
theorem hPr_succ {xs : List Int} {f m : Nat} (h : f + 1 ≤ m) (hm : m < xs.length) : hPr xs f (m + 1) = hPr xs f m ++ hSub (ab (gi xs f)) (sg (gi xs f)) (gi xs m) := by
  have h1 : m - (f + 1) < (xs.drop (f + 1)).length := by simp; omega
  have h2 : gi (xs.drop (f + 1)) (m - (f + 1)) = gi xs m := by
    rw [gi_eq h1, gi_eq hm, List.getElem_drop]
    congr 1
    omega
  rw [hPr, show m + 1 - (f + 1) = (m - (f + 1)) + 1 by omega, take_gi h1, h2, List.flatMap_append, ← List.append_assoc]
  simp [hPr]
theorem hPr_all {xs : List Int} {f t : Nat} (_ : f < t) : hPr xs f t ++ xs.drop (t + 1) = hRed xs f t := by simp [hPr, hRed, hMid, Nat.sub_sub]
theorem hPr_len {xs : List Int} {f m : Nat} (hf : f < m) (hm : m ≤ xs.length) : (hPr xs f m).length ≤ 3 * xs.length := by
  have h := flat_len (ab (gi xs f)) (sg (gi xs f)) ((xs.drop (f + 1)).take (m - (f + 1)))
  have h2 : ((xs.drop (f + 1)).take (m - (f + 1))).length ≤ m - (f + 1) := by simp; omega
  simp only [hPr, List.length_append, List.length_take]
  omega
theorem hSub_yes {j e k : Int} (h : ab k = j + 1) : hSub j e k = [-e * (j + 1), sg k * j, e * (j + 1)] := by rw [hSub, if_pos h]
theorem hSub_no {j e k : Int} (h : ¬ ab k = j + 1) : hSub j e k = [k] := by rw [hSub, if_neg h]
set_option maxHeartbeats 3200000 in
theorem withoutHandle_any (v : Value) (xs : List Int) (B : Nat) (f t : Nat) (w : World) (h : Sl w B v xs) (hB : B ≤ w.heap.size) (hbd : Lt xs) (hft : f < t) (ht : t < xs.length) (hsz : xs.length ≤ 4000) :
    Calls Try.prog 43 #[v, .agg #[.int .i64 f, .int .i64 t]] w fun e w' => ∃ r, e = .returned r ∧ Ow w' w.heap.size w'.heap.size r (hRed xs f t) ∧ Below w.heap.size w w' := by
  obtain ⟨A, c, rfl, hl, hm, hcell⟩ : ∃ (A : Option Addr) (c : Nat), v = .slice A xs.length c ∧ xs.length ≤ c ∧ c ≤ 9223372036854775807 ∧ ∃ b off, A = some ⟨b, off, none⟩ ∧ b < B ∧ ∀ k, k < xs.length → w.cell? ⟨b, off + k, none⟩ = some (.int .i64 (gi xs k)) := by
    obtain ⟨A, c, h1, h2, h3, _, h5⟩ := id h; simp only [maxLen] at h3; exact ⟨A, c, h1, h2, by omega, h5 (by omega)⟩
  obtain ⟨b, off, rfl, hbB, hcell⟩ := hcell
  have HC := Lib.hid hcell
  clear hcell
  have HB := Lib.hid hbd
  obtain ⟨x0, x1, x2⟩ := hbd _ (gi_mem (show f < xs.length by omega))
  have HD := Lib.hid (tdiv_ab x0)
  have HSG := Lib.hid (sg_cases (gi xs f))
  have hj1 : 0 < ab (gi xs f) := ab_pos x0
  have hj2 : ab (gi xs f) ≤ 11 := by unfold ab; omega
  clear hbd
  have hA := al1 w (.cells #[.int .i64 f, .int .i64 t] 39)
  have s0 : Sl w B (.slice (some ⟨b, off, none⟩) f c) (xs.take f) := by
    have := sl_part h 0 f (by omega) (by omega)
    rw [show (if c = 0 then (some (⟨b, off, none⟩ : Addr)) else (some (⟨b, off, none⟩ : Addr)).map (·.add 0)) = some ⟨b, off, none⟩ by split <;> rfl] at this
    simpa using this
  have hwA : ∀ k, k < xs.length → (w.alloc (.cells #[.int .i64 f, .int .i64 t] 39)).cell? ⟨b, off + k, none⟩ = some (.int .i64 (gi xs k)) := fun k hk => by rw [hA.cell (by simp only; omega)]; exact HC.out k hk
  have q9 := hwA f (by omega)
  have HWA := Lib.hid hwA
  have hgz : (ab (gi xs f) == 0) = false := by simp; omega
  obtain ⟨E, HE, hE⟩ : ∃ E, Hid (sg (gi xs f) = E) ∧ (E = 1 ∨ E = -1) := ⟨_, Lib.hid rfl, HSG.out⟩
  have hd : (gi xs f).tdiv (ab (gi xs f)) = E := HD.out.trans HE.out
  clear hwA
  have hdt : (f : Int) + 1 ≤ t := by omega
  have hdc : ¬ c = f + 1 := by omega
  rcases hE with rfl | rfl
  all_goals
    go_enter Try.func43, Try.ntmps43
    go_wp2_with (go_at_call 64; refine (size_any _ _ (by omega) (by omega)).mono ?_; rintro e w' ⟨rfl, rfl⟩)
    refine (cloneInts_any (.slice (some ⟨b, off, none⟩) f c) (xs.take f) B _ (s0.below hA hB) (Nat.le_trans hB hA.size) (by simp; omega)).mono ?_
    rintro e w1 ⟨r1, rfl, ho1, hb1⟩
    have k0 : w1.cell? ⟨w.heap.size, 0, none⟩ = some (.int .i64 f) := by rw [hb1.cell (by simp)]; simp
    have k1 : w1.cell? ⟨w.heap.size, 1, none⟩ = some (.int .i64 t) := by rw [hb1.cell (by simp)]; simp
    have hw0 : (w.alloc (.cells #[.int .i64 f, .int .i64 t] 39)).heap.size = w.heap.size + 1 := by simp
    rw [hw0] at ho1 hb1
    have hb2 := hA.trans (hb1.mono (by omega))
    have hlt1 : w.heap.size < w1.heap.size := by have := hb1.size; omega
    have q0 : w1.cell? ⟨b, off + f, none⟩ = some (.int .i64 (gi xs f)) := by rw [hb2.cell (by simp only; omega)]; exact HC.out f (by omega)
    have hP0 := hPr_zero xs f
    rw [← hP0] at ho1
    have HF := Lib.hid (fun w' (hb : Below (w.heap.size + 1) w1 w') => show w'.cell? ⟨w.heap.size, 0, none⟩ = some (.int .i64 f) ∧ w'.cell? ⟨w.heap.size, 1, none⟩ = some (.int .i64 t) ∧ ∀ k, k < xs.length → w'.cell? ⟨b, off + k, none⟩ = some (.int .i64 (gi xs k)) from
      ⟨by rw [hb.cell (by simp only; omega)]; exact k0, by rw [hb.cell (by simp only; omega)]; exact k1, fun k hk => by rw [hb.cell (by simp only; omega), hb2.cell (by simp only; omega)]; exact HC.out k hk⟩)
    have HB2 := Lib.hid hb2
    have HBD1 := Lib.hid hb1
    have g1 : (f : Int) + 1 ≤ c := by omega
    have g2 : (t : Int) ≤ c := by omega
    have g3 : (t : Int) ≤ xs.length := by omega
    have g4 : ((f : Int) + 1).toNat = f + 1 := by omega
    clear hA hb1 hb2 s0 hP0 hw0
    go_wp2_with fail
    go_loopw [7, 37] (fun o i wr => ∃ m k : Nat, m = f + 1 + k ∧ m ≤ t ∧ i = .int .i64 k ∧ Ow wr (w.heap.size + 1) wr.heap.size o (hPr xs f m) ∧ Below (w.heap.size + 1) w1 wr) (fun _ i _ => t - (intOf i).toNat)
    case atStart => exact ⟨f + 1, 0, by omega, hft, by go_num, ho1, Below.refl _ _⟩
    case round =>
      obtain ⟨m, k, hmk, hmt, rfl, hO, hb⟩ := hrel
      have hfm : f + 1 ≤ m := by omega
      clear k0 k1 q0 ho1
      obtain ⟨k0, k1, hq⟩ := HF.out _ hb
      have HQ := Lib.hid hq
      clear hq
      have hsz2 : w.heap.size + 1 ≤ wr.heap.size := Nat.le_trans hlt1 hb.size
      have hpl := hPr_len (xs := xs) (f := f) (m := m) hfm (by omega)
      by_cases hlt : m < t
      · have hmx : m < xs.length := by omega
        have q1 : wr.cell? ⟨b, off + (f + 1) + k, none⟩ = some (.int .i64 (gi xs m)) := by have := HQ.out m hmx; rwa [show off + (f + 1) + k = off + m by omega]
        have hkl : (k : Int) < ((t - (f + 1) : Nat) : Int) := by omega
        have HMK := Lib.hid hmk
        clear hmk
        obtain ⟨y0, y1, y2⟩ := HB.out _ (gi_mem hmx)
        have HS := Lib.hid (hPr_succ hfm hmx)
        have hl2 : (hPr xs f m).length ≤ 1000000000 := by omega
        by_cases hc : ab (gi xs m) = ab (gi xs f) + 1
        · have hcb : (ab (gi xs m) == ab (gi xs f) + 1) = true := by simp [hc]
          have hdk : (gi xs m).tdiv (ab (gi xs m)) = sg (gi xs m) := tdiv_ab y0
          have HSub := Lib.hid (hSub_yes (e := sg (gi xs f)) hc)
          have hm1 := ab_pos y0
          have hgz2 : (ab (gi xs m) == 0) = false := by simp; omega
          have hgz3 : (ab (gi xs f) + 1 == 0) = false := by simp; omega
          have hdk2 : (gi xs m).tdiv (ab (gi xs f) + 1) = sg (gi xs m) := by rw [← hc]; exact tdiv_ab y0
          have HSK := Lib.hid (sg_cases (gi xs m))
          clear hc
          have HAP : ∀ a b c : Int, Sl (wr.alloc (.cells #[.int .i64 a, .int .i64 b, .int .i64 c] 2)) (wr.heap.size + 1) (.slice (some ⟨wr.heap.size, 0, none⟩) 3 3) [a, b, c] := sl_three wr
          have HAQ := Lib.hid HAP
          clear HAP
          obtain ⟨D, HDD, hD⟩ : ∃ D, Hid (sg (gi xs m) = D) ∧ (D = 1 ∨ D = -1) := ⟨_, Lib.hid rfl, HSK.out⟩
          rw [HDD.out] at hdk hdk2
          rcases hD with rfl | rfl
          all_goals
            go_wp2_with (first | (go_at_call 64; refine (size_any _ _ (by omega) (by omega)).mono ?_; rintro e w' ⟨rfl, rfl⟩) | (at_builtin; refine wpList_append_list rfl _ _ rfl _ _ _ _ _ _ _ _ rfl rfl (hO.al (Nat.le_refl _) _) (HAQ.out _ _ _) (by simp; omega) (by simp; omega) ?_; intro v1 w2 hO2 hg2 _))
            have hbw := (hO.al (Nat.le_refl _) _).grown hg2 (B := w.heap.size + 1) (Nat.le_refl _) (by simp; omega)
            go_roundw
            case rel =>
              refine ⟨m + 1, k + 1, by have := HMK.out; omega, by omega, by go_num, ?_, hb.trans (((al1 wr _).mono hsz2).trans hbw)⟩
              rw [HS.out, HSub.out, HE.out, HDD.out]
              simpa using hO2
            case measure => have := HMK.out; simp [intOf]; omega
        · have hcb : (ab (gi xs m) == ab (gi xs f) + 1) = false := by simp [hc]
          have HSub := Lib.hid (hSub_no (e := sg (gi xs f)) hc)
          clear hc
          go_wp2_with (first | (go_at_call 64; refine (size_any _ _ (by omega) (by omega)).mono ?_; rintro e w' ⟨rfl, rfl⟩) | (at_builtin; refine wpList_append_one rfl _ _ rfl _ _ _ _ _ (gi xs m) rfl rfl hO hsz2 hl2 ?_; intro v1 w2 hO2 hg2 _))
          have hbw := hO.grown hg2 (Nat.le_refl _) hsz2
          go_roundw
          case rel => exact ⟨m + 1, k + 1, by have := HMK.out; omega, by omega, by go_num, by rw [HS.out, HSub.out]; exact hO2, hb.trans hbw⟩
          case measure => have := HMK.out; simp [intOf]; omega
      · obtain rfl : m = t := by omega
        have hkl : ¬ (k : Int) < ((m - (f + 1) : Nat) : Int) := by omega
        clear hmk
        have s9 := sl_part (h.below (HB2.out.trans (hb.mono (by omega))) hB) (m + 1) xs.length (by omega) (Nat.le_refl _)
        rw [List.take_of_length_le (by simp)] at s9
        have f1 : (m : Int) + 1 ≤ c := by omega
        have f2 : (m : Int) + 1 ≤ xs.length := by omega
        have f3 : (0 : Int) ≤ (m : Int) + 1 := by omega
        have f4 : ((m : Int) + 1).toNat = m + 1 := by omega
        have HA := Lib.hid (hPr_all (xs := xs) hft)
        have hl9 : (hPr xs f m).length + (xs.drop (m + 1)).length ≤ 1000000000 := by simp; omega
        have HS9 := Lib.hid s9
        clear s9
        by_cases hcm : c = m + 1
        · have s9 := HS9.out
          rw [if_pos hcm] at s9
          have s7 := s9
          rw [show c - (m + 1) = 0 by omega] at s7
          have s8 := s7
          rw [show xs.length - (m + 1) = 0 by omega] at s8
          go_wp2_with (at_builtin; first | (refine wpList_append_list rfl _ _ rfl _ _ _ _ _ _ _ _ rfl rfl hO s7 hsz2 hl9 ?_; intro v1 w2 hO2 hg2 _) | (refine wpList_append_list rfl _ _ rfl _ _ _ _ _ _ _ _ rfl rfl hO s8 hsz2 hl9 ?_; intro v1 w2 hO2 hg2 _))
          have hbw := hO.grown hg2 (Nat.le_refl _) hsz2
          go_ret
          rw [HA.out] at hO2
          exact ⟨_, rfl, hO2.mono (by omega) (Nat.le_refl _), HB2.out.trans ((hb.trans hbw).mono (by omega))⟩
        · have s9 := HS9.out
          rw [if_neg hcm] at s9
          go_wp2_with (at_builtin; refine wpList_append_list rfl _ _ rfl _ _ _ _ _ _ _ _ rfl rfl hO s9 hsz2 hl9 ?_; intro v1 w2 hO2 hg2 _)
          have hbw := hO.grown hg2 (Nat.le_refl _) hsz2
          go_ret
          rw [HA.out] at hO2
          exact ⟨_, rfl, hO2.mono (by omega) (Nat.le_refl _), HB2.out.trans ((hb.trans hbw).mono (by omega))⟩
end Go.Proofs.Ytcinnbkhnonijaa
