/-
  Contract: mapped of the program (with the closures of MirrorProgram and ShiftProgram).
-/
import Derived.Test.YtgmppfhokfifgaaGmi
import Derived.Deep.RegionHeld3
namespace Go.Proofs.Ytgmppfhokfifgaa
set_option maxRecDepth 10000
open Go.RowKit

theorem same3 {o : List Int} (h : o.length = 8) : o = o.set 3 (gi o 3) := by
  match o, h with
  | [b0, b1, b2, b3, b4, b5, b6, b7], _ => rfl
theorem same5 {o : List Int} (h : o.length = 8) (M : Int) : o.set 3 M = (o.set 3 M).set 5 (gi o 5) := by
  match o, h with
  | [b0, b1, b2, b3, b4, b5, b6, b7], _ => rfl
theorem shift1_any (n a : Int) (p : Addr) (w : World) (hc : w.cell? p = some (.int .i64 n)) (h1 : 0 ≤ a ∧ a ≤ 23) (h2 : -24 ≤ n ∧ n ≤ 24) :
    Calls Try.prog 19 #[.int .i64 a, .pointer (some p)] w fun e w' => e = .returned (.int .i64 (a + n)) ∧ w = w' := by
  obtain ⟨a0, a1⟩ := h1
  obtain ⟨n0, n1⟩ := h2
  go_enter Try.func19, Try.ntmps19
  go_wp2
  go_ret
  exact ⟨rfl, rfl⟩
end Go.Proofs.Ytgmppfhokfifgaa
/-
  Contract: mapped of the program with the closure of ShiftProgram (printed by gen_map2.py).
-/
namespace Go.Proofs.Ytgmppfhokfifgaa
set_option maxRecDepth 10000
open Go.RowKit

def midS (n : Int) (o : List Int) : Nat → List Int
  | 0 => o
  | 1 => o.set 3 (movN n (gi o 2) (gi o 3))
  | _ => (o.set 3 (movN n (gi o 2) (gi o 3))).set 5 (movN n (gi o 4) (gi o 5))
theorem mid2S {n : Int} {o : List Int} (h : o.length = 8) : midS n o 2 = mapO (movN n) o := by
  match o, h with
  | [b0, b1, b2, b3, b4, b5, b6, b7], _ => rfl
set_option maxHeartbeats 3200000 in
theorem mappedS_any (n nn : Int) (v : Value) (os : List (List Int)) (B : Nat) (p : Addr) (w : World) (h : SlR 8 w B v os) (hB : B ≤ w.heap.size) (hc : w.cell? p = some (.int .i64 n)) (hn : -24 ≤ n ∧ n ≤ 24) (hok : okOps nn os = true) :
    Calls Try.prog 18 #[v, .func (.func 19) #[] #[.pointer (some p)]] w fun e w' => ∃ r, e = .returned r ∧ OwT 8 54 w' w.heap.size w'.heap.size r (os.map (mapO (movN n))) ∧ Below w.heap.size w w' := by
  have HK := Lib.hid hok
  have h15 := (okOps_parts hok).2.1
  have H8 := Lib.hid (show ∀ o ∈ os, o.length = 8 by obtain ⟨_, _, _, _, _, ⟨h8, _⟩, _⟩ := id h; exact h8)
  go_enter Try.func18, Try.ntmps18
  go_wp2_with fail
  refine (cloneOps_any _ os B _ h hB (by omega)).mono ?_
  rintro e w1 ⟨r1, rfl, hO, hb⟩
  obtain ⟨A1, c1, rfl, -⟩ := id (hO.sl (Nat.le_refl _))
  go_wp2_with fail
  go_loopw [13] (fun i wr => ∃ k : Nat, k ≤ os.length ∧ i = .int .i64 k ∧ OwT 8 54 wr w.heap.size w1.heap.size (.slice A1 os.length c1) (mixM (mapO (movN n)) os k) ∧ Below w.heap.size w wr ∧ w1.heap.size ≤ wr.heap.size) (fun i _ => os.length - (intOf i).toNat)
  case atStart => exact ⟨0, Nat.zero_le _, rfl, by rw [mixM_zero]; exact hO, hb, Nat.le_refl _⟩
  case round =>
    obtain ⟨k, hk, rfl, hO, hb3, hz3⟩ := hrel
    obtain ⟨w0, hw0⟩ : ∃ x, x = wr := ⟨_, rfl⟩
    subst hw0
    by_cases hlt : k < os.length
    · have hml := mixM_len (mapO (movN n)) os k
      obtain ⟨g, cap, hv, hg1, hg2⟩ := hO.shape (by omega)
      rw [hml] at hv
      injection hv with hv _ hv2
      subst hv hv2
      go_wp2_with fail
      go_region_held3 (fun w' => Below w0.heap.size w0 w') (first | assumption | go_grown) (fail)
      have hA := al1 w0 (.cells #[.pointer (some ⟨g, k * 8 + 2, none⟩), .pointer (some ⟨g, k * 8 + 4, none⟩)] 71)
      have hAd : Below w0.heap.size w0 (w0.alloc (.cells #[.pointer (some ⟨g, k * 8 + 2, none⟩), .pointer (some ⟨g, k * 8 + 4, none⟩)] 71)).drew := hA.drew
      have z0 : (w0.alloc (.cells #[.pointer (some ⟨g, k * 8 + 2, none⟩), .pointer (some ⟨g, k * 8 + 4, none⟩)] 71)).drew.cell? ⟨w0.heap.size, 0, none⟩ = some (.pointer (some ⟨g, k * 8 + 2, none⟩)) := by simp
      have z1 : (w0.alloc (.cells #[.pointer (some ⟨g, k * 8 + 2, none⟩), .pointer (some ⟨g, k * 8 + 4, none⟩)] 71)).drew.cell? ⟨w0.heap.size, 1, none⟩ = some (.pointer (some ⟨g, k * 8 + 4, none⟩)) := by simp
      have hOk := hO.below hAd hz3
      have hbk := hb3.trans (hAd.mono hb3.size)
      have hzk := Nat.le_trans hz3 hAd.size
      have hgl := mixM_gl (mapO (movN n)) os k hlt
      have hkm : k < (mixM (mapO (movN n)) os k).length := by rw [hml]; exact hlt
      obtain ⟨-, -, -, x1, -, x2, -, -⟩ := op_bds ((okOps_parts HK.out).2.2 k hlt).1
      have hgr : g < w0.heap.size := Nat.lt_of_lt_of_le hg2 hz3
      have hpk := (show Addr.block p < w.heap.size from block_lt_of_cell hc)
      have hpc : (w0.alloc (.cells #[.pointer (some ⟨g, k * 8 + 2, none⟩), .pointer (some ⟨g, k * 8 + 4, none⟩)] 71)).drew.cell? p = some (.int .i64 n) := by rw [hbk.cell hpk]; exact hc
      have hset0 : (mixM (mapO (movN n)) os k).set k (gl os k) = mixM (mapO (movN n)) os k := by rw [← hgl, gl_eq hkm]; exact List.set_getElem_self hkm
      clear hA hO
      generalize (w0.alloc (.cells #[.pointer (some ⟨g, k * 8 + 2, none⟩), .pointer (some ⟨g, k * 8 + 4, none⟩)] 71)).drew = wk at *
      have hgp : g ≠ w0.heap.size := by omega
      go_wp2_with fail
      go_loopw [26] (fun i wi => ∃ j : Nat, j ≤ 2 ∧ i = .int .i64 j ∧ OwT 8 54 wi w.heap.size w1.heap.size (.slice (some ⟨g, 0, none⟩) os.length c1) ((mixM (mapO (movN n)) os k).set k (midS n (gl os k) j)) ∧ wi.cell? ⟨w0.heap.size, 0, none⟩ = some (.pointer (some ⟨g, k * 8 + 2, none⟩)) ∧ wi.cell? ⟨w0.heap.size, 1, none⟩ = some (.pointer (some ⟨g, k * 8 + 4, none⟩)) ∧ wi.cell? p = some (.int .i64 n) ∧ Below w.heap.size w wi ∧ w1.heap.size ≤ wi.heap.size) (fun i _ => 2 - (intOf i).toNat)
      case atStart => exact ⟨0, Nat.zero_le _, rfl, by rw [show midS n (gl os k) 0 = gl os k from rfl, hset0]; exact hOk, z0, z1, hpc, hbk, hzk⟩
      case round =>
        obtain ⟨j, hj, rfl, hOi, y0, y1, hpi, hbi, hzi⟩ := hrel
        rcases (show j = 0 ∨ j = 1 ∨ j = 2 by omega) with rfl | rfl | rfl
        · have hmj : ((mixM (mapO (movN n)) os k).set k (midS n (gl os k) 0)).length = os.length := by rw [List.length_set, hml]
          have hset : ∀ q, q < 8 → wr.cell? ⟨g, k * 8 + q, none⟩ = some (.int .i64 (gi (midS n (gl os k) 0) q)) ∧ wr.frozen? ⟨g, k * 8 + q, none⟩ = false := fun q hq => by
            have := hOi.set1 hmj k q (by rw [hmj]; exact hlt) hq 0
            rw [gl_set hkm] at this
            exact ⟨this.1, this.2.1⟩
          obtain ⟨t0, -⟩ := hset 2 (by omega)
          obtain ⟨t1, u1⟩ := hset 3 (by omega)
          rw [show midS n (gl os k) 0 = gl os k from rfl] at t0 t1
          obtain ⟨-, -, o2, d2⟩ := hOi.set1 hmj k 3 (by rw [hmj]; exact hlt) (by omega) (gi (gl os k) 3 + n)
          rw [gl_set hkm, List.set_set] at o2
          have HO2 := Lib.hid o2
          have HD2 := Lib.hid d2
          clear hset o2 d2
          cases hbed : (gi (gl os k) 2 == 0)
          · have hbn : (gi (gl os k) 2 != 0) = true := by simp [bne, hbed]
            have HM := Lib.hid (show movN n (gi (gl os k) 2) (gi (gl os k) 3) = gi (gl os k) 3 + n by rw [movN, if_neg (by simpa using hbed)])
            have HE2 := Lib.hid (show (midS n (gl os k) 0).set 3 (gi (gl os k) 3 + n) = midS n (gl os k) 1 by rw [← HM.out]; rfl)
            rw [HE2.out] at HO2
            go_wp2_with fail
            refine (shift1_any n _ p _ hpi x1 hn).mono ?_
            rintro e w' ⟨rfl, rfl⟩
            go_wp2_with fail
            go_roundw
            case rel =>
              refine ⟨1, by omega, rfl, HO2.out, ?_, ?_, ?_, hbi.trans (HD2.out.below (Nat.le_refl _) hbi.size), Nat.le_trans hzi HD2.out.size⟩
              · rw [World.cell?_setCell_far _ _ _ _ (by simp only; omega)]; exact y0
              · rw [World.cell?_setCell_far _ _ _ _ (by simp only; omega)]; exact y1
              · rw [World.cell?_setCell_far _ _ _ _ (by simp only; omega)]; exact hpi
            case measure => simp [intOf]
          · have hbn : (gi (gl os k) 2 != 0) = false := by simp [bne, hbed]
            have HM := Lib.hid (show movN n (gi (gl os k) 2) (gi (gl os k) 3) = gi (gl os k) 3 by rw [movN, if_pos (by simpa using hbed)])
            have h8 := H8.out _ (gl_mem hlt)
            have HE2 := Lib.hid (show midS n (gl os k) 0 = midS n (gl os k) 1 by
              show gl os k = (gl os k).set 3 (movN n (gi (gl os k) 2) (gi (gl os k) 3))
              rw [HM.out]
              exact same3 h8)
            rw [HE2.out] at hOi
            go_wp2_with fail
            go_roundw
            case rel => exact ⟨1, by omega, rfl, hOi, y0, y1, hpi, hbi, hzi⟩
            case measure => simp [intOf]
        · have hmj : ((mixM (mapO (movN n)) os k).set k (midS n (gl os k) 1)).length = os.length := by rw [List.length_set, hml]
          have hset : ∀ q, q < 8 → wr.cell? ⟨g, k * 8 + q, none⟩ = some (.int .i64 (gi (midS n (gl os k) 1) q)) ∧ wr.frozen? ⟨g, k * 8 + q, none⟩ = false := fun q hq => by
            have := hOi.set1 hmj k q (by rw [hmj]; exact hlt) hq 0
            rw [gl_set hkm] at this
            exact ⟨this.1, this.2.1⟩
          obtain ⟨t0, -⟩ := hset 4 (by omega)
          obtain ⟨t1, u1⟩ := hset 5 (by omega)
          rw [show gi (midS n (gl os k) 1) 4 = gi (gl os k) 4 from gi_set_ne (show 3 ≠ 4 by decide) _] at t0
          rw [show gi (midS n (gl os k) 1) 5 = gi (gl os k) 5 from gi_set_ne (show 3 ≠ 5 by decide) _] at t1
          obtain ⟨-, -, o2, d2⟩ := hOi.set1 hmj k 5 (by rw [hmj]; exact hlt) (by omega) (gi (gl os k) 5 + n)
          rw [gl_set hkm, List.set_set] at o2
          have HO2 := Lib.hid o2
          have HD2 := Lib.hid d2
          clear hset o2 d2
          cases hbed : (gi (gl os k) 4 == 0)
          · have hbn : (gi (gl os k) 4 != 0) = true := by simp [bne, hbed]
            have HM := Lib.hid (show movN n (gi (gl os k) 4) (gi (gl os k) 5) = gi (gl os k) 5 + n by rw [movN, if_neg (by simpa using hbed)])
            have HE2 := Lib.hid (show (midS n (gl os k) 1).set 5 (gi (gl os k) 5 + n) = midS n (gl os k) 2 by rw [← HM.out]; rfl)
            rw [HE2.out] at HO2
            go_wp2_with fail
            refine (shift1_any n _ p _ hpi x2 hn).mono ?_
            rintro e w' ⟨rfl, rfl⟩
            go_wp2_with fail
            go_roundw
            case rel =>
              refine ⟨2, by omega, rfl, HO2.out, ?_, ?_, ?_, hbi.trans (HD2.out.below (Nat.le_refl _) hbi.size), Nat.le_trans hzi HD2.out.size⟩
              · rw [World.cell?_setCell_far _ _ _ _ (by simp only; omega)]; exact y0
              · rw [World.cell?_setCell_far _ _ _ _ (by simp only; omega)]; exact y1
              · rw [World.cell?_setCell_far _ _ _ _ (by simp only; omega)]; exact hpi
            case measure => simp [intOf]
          · have hbn : (gi (gl os k) 4 != 0) = false := by simp [bne, hbed]
            have HM := Lib.hid (show movN n (gi (gl os k) 4) (gi (gl os k) 5) = gi (gl os k) 5 by rw [movN, if_pos (by simpa using hbed)])
            have h8 := H8.out _ (gl_mem hlt)
            have HE2 := Lib.hid (show midS n (gl os k) 1 = midS n (gl os k) 2 by
              show (gl os k).set 3 (movN n (gi (gl os k) 2) (gi (gl os k) 3)) = ((gl os k).set 3 (movN n (gi (gl os k) 2) (gi (gl os k) 3))).set 5 (movN n (gi (gl os k) 4) (gi (gl os k) 5))
              rw [HM.out]
              generalize movN n (gi (gl os k) 2) (gi (gl os k) 3) = M
              exact same5 h8 M)
            rw [HE2.out] at hOi
            go_wp2_with fail
            go_roundw
            case rel => exact ⟨2, by omega, rfl, hOi, y0, y1, hpi, hbi, hzi⟩
            case measure => simp [intOf]
        · have h8 := H8.out _ (gl_mem hlt)
          have HE2 := Lib.hid (show midS n (gl os k) 2 = mapO (movN n) (gl os k) from mid2S h8)
          rw [HE2.out, mixM_set _ _ _ hlt] at hOi
          go_wp2_with fail
          go_roundw
          case rel => exact ⟨k + 1, by omega, by go_num, hOi, hbi, hzi⟩
          case measure => simp [intOf]; omega
    · obtain rfl : k = os.length := by omega
      rw [mixM_all] at hO
      go_wp2_with fail
      go_ret
      exact ⟨_, rfl, hO.mono (Nat.le_refl _) hz3, hb3⟩
end Go.Proofs.Ytgmppfhokfifgaa
/-
  Contracts: MirrorProgram and ShiftProgram of the program.
-/
namespace Go.Proofs.Ytgmppfhokfifgaa
set_option maxRecDepth 10000
open Go.RowKit

set_option maxHeartbeats 3200000 in
theorem impl_ShiftProgram_any (n : Int) (v : Value) (os : List (List Int)) (m : Int) (B : Nat) (w : World) (h : SlR 8 w B v os) (hB : B ≤ w.heap.size) :
    Calls Try.prog 8 #[.int .i64 n, v, .int .i64 m] w fun e w' => ∃ r, e = .returned (.tuple #[r, .int .i64 (spA n os m).2]) ∧ OwT 8 54 w' w.heap.size w'.heap.size r (spA n os m).1 ∧ Below w.heap.size w w' := by
  cases hok : okOps n os
  · have HE := Lib.hid (show spA n os m = ([], 1) by simp [spA, hok])
    go_enter Try.func8, Try.ntmps8
    go_wp2_with fail
    refine (is_below hok (validFor_any n _ os B _ h hB)).mono ?_
    rintro e w1 ⟨rfl, hb⟩
    go_wp2_with fail
    go_ret2
    exact ⟨_, by rw [HE.out]; rfl, by rw [HE.out]; exact OwT.nil _ _ _ _ _, hb⟩
  · have HE := Lib.hid (show spA n os m = spB n (os.map (mapO (movN (clampN m)))) by simp [spA, hok])
    have HK := Lib.hid hok
    go_enter Try.func8, Try.ntmps8
    go_wp2_with fail
    refine (is_below hok (validFor_any n _ os B _ h hB)).mono ?_
    rintro e w1 ⟨rfl, hb⟩
    have hf : -24 ≤ clampN m ∧ clampN m ≤ 24 := by unfold clampN; omega
    have hcl : (if (-24 : Int) < (if 24 < m then 24 else m) then (if 24 < m then 24 else m) else -24) = clampN m := by unfold clampN; (repeat split) <;> omega
    have hc2 : (w1.alloc (.cells #[.int .i64 (clampN m)] 2)).cell? ⟨w1.heap.size, 0, none⟩ = some (.int .i64 (clampN m)) := by simp
    have ha := al1 w1 (.cells #[.int .i64 (clampN m)] 2)
    have hb4 := hb.trans (ha.mono hb.size)
    have hsl := h.below hb4 hB
    have hBB := Nat.le_trans hB hb4.size
    go_wp2_with fail
    all_goals
      refine (mappedS_any (clampN m) n _ os B ⟨w1.heap.size, 0, none⟩ _ hsl hBB hc2 hf HK.out).mono ?_
      rintro e w2 ⟨r, rfl, hO, hb2⟩
      have hb5 := hb4.trans (hb2.mono hb4.size)
      go_wp2_with fail
      refine (validFor_any n _ _ _ _ (hO.sl (Nat.le_refl _)) (Nat.le_refl _)).mono ?_
      rintro e w3 ⟨rfl, hb3⟩
      generalize os.map (mapO (movN (clampN m))) = os2 at *
      cases hok2 : okOps n os2
      · have HF := Lib.hid (show spB n os2 = ([], 2) by simp [spB, hok2])
        go_wp2_with fail
        go_ret2
        exact ⟨_, by rw [HE.out, HF.out]; rfl, by rw [HE.out, HF.out]; exact OwT.nil _ _ _ _ _, hb5.trans (hb3.mono hb5.size)⟩
      · have HF := Lib.hid (show spB n os2 = (os2, 0) by simp [spB, hok2])
        go_wp2_with fail
        go_ret2
        exact ⟨_, by rw [HE.out, HF.out]; rfl, by rw [HE.out, HF.out]; exact (hO.below hb3 (Nat.le_refl _)).mono hb4.size hb3.size, hb5.trans (hb3.mono hb5.size)⟩
end Go.Proofs.Ytgmppfhokfifgaa
