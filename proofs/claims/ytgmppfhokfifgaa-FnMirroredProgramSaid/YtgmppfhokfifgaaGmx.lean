/-
  Contract: mapped of the program (with the closures of MirrorProgram and ShiftProgram).
-/
import Derived.Test.YtgmppfhokfifgaaMir
import Derived.Deep.RegionHeld3
namespace Go.Proofs.Ytgmppfhokfifgaa
set_option maxRecDepth 10000
open Go.RowKit

def midR (n : Int) (o : List Int) : Nat → List Int
  | 0 => o
  | 1 => o.set 3 (mirN n (gi o 2) (gi o 3))
  | _ => (o.set 3 (mirN n (gi o 2) (gi o 3))).set 5 (mirN n (gi o 4) (gi o 5))
theorem same3 {o : List Int} (h : o.length = 8) : o = o.set 3 (gi o 3) := by
  match o, h with
  | [b0, b1, b2, b3, b4, b5, b6, b7], _ => rfl
theorem same5 {o : List Int} (h : o.length = 8) (M : Int) : o.set 3 M = (o.set 3 M).set 5 (gi o 5) := by
  match o, h with
  | [b0, b1, b2, b3, b4, b5, b6, b7], _ => rfl
theorem mid2 {n : Int} {o : List Int} (h : o.length = 8) : midR n o 2 = mapO (mirN n) o := by
  match o, h with
  | [b0, b1, b2, b3, b4, b5, b6, b7], _ => rfl
theorem mirror1_any (n a : Int) (p : Addr) (w : World) (hc : w.cell? p = some (.int .i64 n)) (h1 : 0 ≤ a ∧ a ≤ 23) (h2 : 1 ≤ n ∧ n ≤ 24) :
    Calls Try.prog 22 #[.int .i64 a, .pointer (some p)] w fun e w' => e = .returned (.int .i64 (n - 1 - a)) ∧ w = w' := by
  obtain ⟨a0, a1⟩ := h1
  obtain ⟨n0, n1⟩ := h2
  go_enter Try.func22, Try.ntmps22
  go_wp2
  go_ret
  exact ⟨rfl, rfl⟩
set_option maxHeartbeats 3200000 in
theorem mappedM_any (n nn : Int) (v : Value) (os : List (List Int)) (B : Nat) (p : Addr) (w : World) (h : SlR 8 w B v os) (hB : B ≤ w.heap.size) (hc : w.cell? p = some (.int .i64 n)) (hn : 1 ≤ n ∧ n ≤ 24) (hok : okOps nn os = true) :
    Calls Try.prog 18 #[v, .func (.func 22) #[] #[.pointer (some p)]] w fun e w' => ∃ r, e = .returned r ∧ OwT 8 54 w' w.heap.size w'.heap.size r (os.map (mapO (mirN n))) ∧ Below w.heap.size w w' := by
  have HK := Lib.hid hok
  have h15 := (okOps_parts hok).2.1
  have H8 := Lib.hid (show ∀ o ∈ os, o.length = 8 by obtain ⟨_, _, _, _, _, ⟨h8, _⟩, _⟩ := id h; exact h8)
  go_enter Try.func18, Try.ntmps18
  go_wp2_with fail
  refine (cloneOps_any _ os B _ h hB (by omega)).mono ?_
  rintro e w1 ⟨r1, rfl, hO, hb⟩
  obtain ⟨A1, c1, rfl, -⟩ := id (hO.sl (Nat.le_refl _))
  go_wp2_with fail
  go_loopw [13] (fun i wr => ∃ k : Nat, k ≤ os.length ∧ i = .int .i64 k ∧ OwT 8 54 wr w.heap.size w1.heap.size (.slice A1 os.length c1) (mixM (mapO (mirN n)) os k) ∧ Below w.heap.size w wr ∧ w1.heap.size ≤ wr.heap.size) (fun i _ => os.length - (intOf i).toNat)
  case atStart => exact ⟨0, Nat.zero_le _, rfl, by rw [mixM_zero]; exact hO, hb, Nat.le_refl _⟩
  case round =>
    obtain ⟨k, hk, rfl, hO, hb3, hz3⟩ := hrel
    obtain ⟨w0, hw0⟩ : ∃ x, x = wr := ⟨_, rfl⟩
    subst hw0
    by_cases hlt : k < os.length
    · have hml := mixM_len (mapO (mirN n)) os k
      obtain ⟨g, cap, hv, hg1, hg2⟩ := hO.shape (by omega)
      rw [hml] at hv
      injection hv with hv _ hv2
      subst hv hv2
      go_wp2_with fail
      go_region_held3 (fun w' => Below w0.heap.size w0 w') (first | assumption | go_grown) (fail)
      have hA := al1 w0 (.cells #[.pointer (some ⟨g, k * 8 + 2, none⟩), .pointer (some ⟨g, k * 8 + 4, none⟩)] 71)
      have hAd : Below w0.heap.size w0 (w0.alloc (.cells #[.pointer (some ⟨g, k * 8 + 2, none⟩), .pointer (some ⟨g, k * 8 + 4, none⟩)] 71)).drew := hA.drew
      have z0 : (w0.alloc (.cells #[.pointer (some ⟨g, k * 8 + 2, none⟩), .pointer (some ⟨g, k * 8 + 4, none⟩)] 71)).drew.cell? ⟨w0.heap.size, 0, none⟩ = some (.pointer (some ⟨g, k * 8 + 2, none⟩)) := by simp
      have z1 : (w0.alloc (.cells #[.pointer (some ⟨g, k * 8 + 2, none⟩), .pointer (some ⟨g, k * 8 + 4, none⟩)] 71)).drew.cell? ⟨w0.heap.size, 1, none⟩ = some (.pointer (some ⟨g, k * 8 + 4, none⟩)) := by simp
      have hOk := hO.below hAd hz3
      have hbk := hb3.trans (hAd.mono hb3.size)
      have hzk := Nat.le_trans hz3 hAd.size
      have hgl := mixM_gl (mapO (mirN n)) os k hlt
      have hkm : k < (mixM (mapO (mirN n)) os k).length := by rw [hml]; exact hlt
      obtain ⟨-, -, -, x1, -, x2, -, -⟩ := op_bds ((okOps_parts HK.out).2.2 k hlt).1
      have hgr : g < w0.heap.size := Nat.lt_of_lt_of_le hg2 hz3
      have hpk := (show Addr.block p < w.heap.size from block_lt_of_cell hc)
      have hpc : (w0.alloc (.cells #[.pointer (some ⟨g, k * 8 + 2, none⟩), .pointer (some ⟨g, k * 8 + 4, none⟩)] 71)).drew.cell? p = some (.int .i64 n) := by rw [hbk.cell hpk]; exact hc
      have hset0 : (mixM (mapO (mirN n)) os k).set k (gl os k) = mixM (mapO (mirN n)) os k := by rw [← hgl, gl_eq hkm]; exact List.set_getElem_self hkm
      clear hA hO
      generalize (w0.alloc (.cells #[.pointer (some ⟨g, k * 8 + 2, none⟩), .pointer (some ⟨g, k * 8 + 4, none⟩)] 71)).drew = wk at *
      have hgp : g ≠ w0.heap.size := by omega
      go_wp2_with fail
      go_loopw [26] (fun i wi => ∃ j : Nat, j ≤ 2 ∧ i = .int .i64 j ∧ OwT 8 54 wi w.heap.size w1.heap.size (.slice (some ⟨g, 0, none⟩) os.length c1) ((mixM (mapO (mirN n)) os k).set k (midR n (gl os k) j)) ∧ wi.cell? ⟨w0.heap.size, 0, none⟩ = some (.pointer (some ⟨g, k * 8 + 2, none⟩)) ∧ wi.cell? ⟨w0.heap.size, 1, none⟩ = some (.pointer (some ⟨g, k * 8 + 4, none⟩)) ∧ wi.cell? p = some (.int .i64 n) ∧ Below w.heap.size w wi ∧ w1.heap.size ≤ wi.heap.size) (fun i _ => 2 - (intOf i).toNat)
      case atStart => exact ⟨0, Nat.zero_le _, rfl, by rw [show midR n (gl os k) 0 = gl os k from rfl, hset0]; exact hOk, z0, z1, hpc, hbk, hzk⟩
      case round =>
        obtain ⟨j, hj, rfl, hOi, y0, y1, hpi, hbi, hzi⟩ := hrel
        rcases (show j = 0 ∨ j = 1 ∨ j = 2 by omega) with rfl | rfl | rfl
        · have hmj : ((mixM (mapO (mirN n)) os k).set k (midR n (gl os k) 0)).length = os.length := by rw [List.length_set, hml]
          have hset : ∀ q, q < 8 → wr.cell? ⟨g, k * 8 + q, none⟩ = some (.int .i64 (gi (midR n (gl os k) 0) q)) ∧ wr.frozen? ⟨g, k * 8 + q, none⟩ = false := fun q hq => by
            have := hOi.set1 hmj k q (by rw [hmj]; exact hlt) hq 0
            rw [gl_set hkm] at this
            exact ⟨this.1, this.2.1⟩
          obtain ⟨t0, -⟩ := hset 2 (by omega)
          obtain ⟨t1, u1⟩ := hset 3 (by omega)
          rw [show midR n (gl os k) 0 = gl os k from rfl] at t0 t1
          obtain ⟨-, -, o2, d2⟩ := hOi.set1 hmj k 3 (by rw [hmj]; exact hlt) (by omega) (n - 1 - gi (gl os k) 3)
          rw [gl_set hkm, List.set_set] at o2
          have HO2 := Lib.hid o2
          have HD2 := Lib.hid d2
          clear hset o2 d2
          cases hbed : (gi (gl os k) 2 == 0)
          · have hbn : (gi (gl os k) 2 != 0) = true := by simp [bne, hbed]
            have HM := Lib.hid (show mirN n (gi (gl os k) 2) (gi (gl os k) 3) = n - 1 - gi (gl os k) 3 by rw [mirN, if_neg (by simpa using hbed)])
            have HE2 := Lib.hid (show (midR n (gl os k) 0).set 3 (n - 1 - gi (gl os k) 3) = midR n (gl os k) 1 by rw [← HM.out]; rfl)
            rw [HE2.out] at HO2
            go_wp2_with fail
            refine (mirror1_any n _ p _ hpi x1 hn).mono ?_
            rintro e w' ⟨rfl, rfl⟩
            go_wp2_with fail
            go_roundw
            case rel =>
              refine ⟨1, by omega, rfl, HO2.out, ?_, ?_, ?_, hbi.trans (HD2.out.below (Nat.le_refl _) hbi.size), Nat.le_trans hzi HD2.out.size⟩
              · rw [World.cell?_setCell_far _ _ _ _ (by simp only; omega)]; exact y0
              · rw [World.cell?_setCell_far _ _ _ _ (by simp only; omega)]; exact y1
              · rw [World.cell?_setCell_far _ _ _ _ (by simp only; omega)]; exact hpi
            case measure => simp [intOf]
          · have hbn : (gi (gl os k) 2 != 0) = false := by simp [bne, hbed]
            have HM := Lib.hid (show mirN n (gi (gl os k) 2) (gi (gl os k) 3) = gi (gl os k) 3 by rw [mirN, if_pos (by simpa using hbed)])
            have h8 := H8.out _ (gl_mem hlt)
            have HE2 := Lib.hid (show midR n (gl os k) 0 = midR n (gl os k) 1 by
              show gl os k = (gl os k).set 3 (mirN n (gi (gl os k) 2) (gi (gl os k) 3))
              rw [HM.out]
              exact same3 h8)
            rw [HE2.out] at hOi
            go_wp2_with fail
            go_roundw
            case rel => exact ⟨1, by omega, rfl, hOi, y0, y1, hpi, hbi, hzi⟩
            case measure => simp [intOf]
        · have hmj : ((mixM (mapO (mirN n)) os k).set k (midR n (gl os k) 1)).length = os.length := by rw [List.length_set, hml]
          have hset : ∀ q, q < 8 → wr.cell? ⟨g, k * 8 + q, none⟩ = some (.int .i64 (gi (midR n (gl os k) 1) q)) ∧ wr.frozen? ⟨g, k * 8 + q, none⟩ = false := fun q hq => by
            have := hOi.set1 hmj k q (by rw [hmj]; exact hlt) hq 0
            rw [gl_set hkm] at this
            exact ⟨this.1, this.2.1⟩
          obtain ⟨t0, -⟩ := hset 4 (by omega)
          obtain ⟨t1, u1⟩ := hset 5 (by omega)
          rw [show gi (midR n (gl os k) 1) 4 = gi (gl os k) 4 from gi_set_ne (show 3 ≠ 4 by decide) _] at t0
          rw [show gi (midR n (gl os k) 1) 5 = gi (gl os k) 5 from gi_set_ne (show 3 ≠ 5 by decide) _] at t1
          obtain ⟨-, -, o2, d2⟩ := hOi.set1 hmj k 5 (by rw [hmj]; exact hlt) (by omega) (n - 1 - gi (gl os k) 5)
          rw [gl_set hkm, List.set_set] at o2
          have HO2 := Lib.hid o2
          have HD2 := Lib.hid d2
          clear hset o2 d2
          cases hbed : (gi (gl os k) 4 == 0)
          · have hbn : (gi (gl os k) 4 != 0) = true := by simp [bne, hbed]
            have HM := Lib.hid (show mirN n (gi (gl os k) 4) (gi (gl os k) 5) = n - 1 - gi (gl os k) 5 by rw [mirN, if_neg (by simpa using hbed)])
            have HE2 := Lib.hid (show (midR n (gl os k) 1).set 5 (n - 1 - gi (gl os k) 5) = midR n (gl os k) 2 by rw [← HM.out]; rfl)
            rw [HE2.out] at HO2
            go_wp2_with fail
            refine (mirror1_any n _ p _ hpi x2 hn).mono ?_
            rintro e w' ⟨rfl, rfl⟩
            go_wp2_with fail
            go_roundw
            case rel =>
              refine ⟨2, by omega, rfl, HO2.out, ?_, ?_, ?_, hbi.trans (HD2.out.below (Nat.le_refl _) hbi.size), Nat.le_trans hzi HD2.out.size⟩
              · rw [World.cell?_setCell_far _ _ _ _ (by simp only; omega)]; exact y0
              · rw [World.cell?_setCell_far _ _ _ _ (by simp only; omega)]; exact y1
              · rw [World.cell?_setCell_far _ _ _ _ (by simp only; omega)]; exact hpi
            case measure => simp [intOf]
          · have hbn : (gi (gl os k) 4 != 0) = false := by simp [bne, hbed]
            have HM := Lib.hid (show mirN n (gi (gl os k) 4) (gi (gl os k) 5) = gi (gl os k) 5 by rw [mirN, if_pos (by simpa using hbed)])
            have h8 := H8.out _ (gl_mem hlt)
            have HE2 := Lib.hid (show midR n (gl os k) 1 = midR n (gl os k) 2 by
              show (gl os k).set 3 (mirN n (gi (gl os k) 2) (gi (gl os k) 3)) = ((gl os k).set 3 (mirN n (gi (gl os k) 2) (gi (gl os k) 3))).set 5 (mirN n (gi (gl os k) 4) (gi (gl os k) 5))
              rw [HM.out]
              generalize mirN n (gi (gl os k) 2) (gi (gl os k) 3) = M
              exact same5 h8 M)
            rw [HE2.out] at hOi
            go_wp2_with fail
            go_roundw
            case rel => exact ⟨2, by omega, rfl, hOi, y0, y1, hpi, hbi, hzi⟩
            case measure => simp [intOf]
        · have h8 := H8.out _ (gl_mem hlt)
          have HE2 := Lib.hid (show midR n (gl os k) 2 = mapO (mirN n) (gl os k) from mid2 h8)
          rw [HE2.out, mixM_set _ _ _ hlt] at hOi
          go_wp2_with fail
          go_roundw
          case rel => exact ⟨k + 1, by omega, by go_num, hOi, hbi, hzi⟩
          case measure => simp [intOf]; omega
    · obtain rfl : k = os.length := by omega
      rw [mixM_all] at hO
      go_wp2_with fail
      go_ret
      exact ⟨_, rfl, hO.mono (Nat.le_refl _) hz3, hb3⟩
end Go.Proofs.Ytgmppfhokfifgaa
/-
  Contracts: MirrorProgram and ShiftProgram of the program.
-/
namespace Go.Proofs.Ytgmppfhokfifgaa
set_option maxRecDepth 10000
open Go.RowKit

theorem mir_two {n : Int} {o : List Int} (h : o.length = 8) : ((mapO (mirN n) o).set 1 (-gi o 1)).set 7 (-gi o 7) = mirO n o := by
  match o, h with
  | [b0, b1, b2, b3, b4, b5, b6, b7], _ => rfl
set_option maxHeartbeats 3200000 in
theorem impl_MirrorProgram_any (n : Int) (v : Value) (os : List (List Int)) (B : Nat) (w : World) (h : SlR 8 w B v os) (hB : B ≤ w.heap.size) :
    Calls Try.prog 13 #[.int .i64 n, v] w fun e w' => ∃ r, e = .returned (.tuple #[r, .int .i64 (mpA n os).2]) ∧ OwT 8 54 w' w.heap.size w'.heap.size r (mpA n os).1 ∧ Below w.heap.size w w' := by
  have hA := al1 w (.cells #[.int .i64 n] 2)
  have h1 := h.below hA hB
  have hB1 := Nat.le_trans hB hA.size
  have hc0 : (w.alloc (.cells #[.int .i64 n] 2)).cell? ⟨w.heap.size, 0, none⟩ = some (.int .i64 n) := by simp
  cases hok : okOps n os
  · have HE := Lib.hid (show mpA n os = ([], 1) by simp [mpA, hok])
    go_enter Try.func13, Try.ntmps13
    go_wp2_with fail
    refine (is_below hok (validFor_any n _ os B _ h1 hB1)).mono ?_
    rintro e w1 ⟨rfl, hb⟩
    go_wp2_with fail
    go_ret2
    exact ⟨_, by rw [HE.out]; rfl, by rw [HE.out]; exact OwT.nil _ _ _ _ _, hA.trans (hb.mono hA.size)⟩
  · have HE := Lib.hid (show mpA n os = (os.map (mirO n), 0) by simp [mpA, hok])
    have HK := Lib.hid hok
    have H8 := Lib.hid (show ∀ o ∈ os, o.length = 8 by obtain ⟨_, _, _, _, _, ⟨h8, _⟩, _⟩ := id h; exact h8)
    obtain ⟨hn, h15, hall⟩ := okOps_parts hok
    have HALL := Lib.hid hall
    go_enter Try.func13, Try.ntmps13
    go_wp2_with fail
    refine (is_below hok (validFor_any n _ os B _ h1 hB1)).mono ?_
    rintro e w1 ⟨rfl, hb⟩
    have hb1 := hA.trans (hb.mono hA.size)
    have hc1 : w1.cell? ⟨w.heap.size, 0, none⟩ = some (.int .i64 n) := by rw [hb.cell (by simp)]; exact hc0
    have hz1 : w.heap.size < w1.heap.size := block_lt_of_cell hc1
    go_wp2_with fail
    refine (mappedM_any n n _ os B ⟨w.heap.size, 0, none⟩ _ (h.below hb1 hB) (Nat.le_trans hB hb1.size) hc1 hn HK.out).mono ?_
    rintro e w2 ⟨r, rfl, hO, hb2⟩
    have hb3 := hb1.trans (hb2.mono hb1.size)
    obtain ⟨A2, c2, rfl, -⟩ := id (hO.sl (Nat.le_refl _))
    have hlm : (os.map (mapO (mirN n))).length = os.length := by simp
    rw [hlm] at hO
    go_wp2_with fail
    go_loopw [17] (fun i wr => ∃ k : Nat, k ≤ os.length ∧ i = .int .i64 k ∧ OwT 8 54 wr w1.heap.size w2.heap.size (.slice A2 os.length c2) ((os.take k).map (mirO n) ++ (os.drop k).map (mapO (mirN n))) ∧ Below w.heap.size w wr ∧ w2.heap.size ≤ wr.heap.size) (fun i _ => os.length - (intOf i).toNat)
    case atStart => exact ⟨0, Nat.zero_le _, by simp, by simpa using hO, hb3, Nat.le_refl _⟩
    case round =>
      obtain ⟨k, hk, rfl, hO, hb4, hz4⟩ := hrel
      by_cases hlt : k < os.length
      · have hml : ((os.take k).map (mirO n) ++ (os.drop k).map (mapO (mirN n))).length = os.length := by simp; omega
        have hkm : k < ((os.take k).map (mirO n) ++ (os.drop k).map (mapO (mirN n))).length := by rw [hml]; exact hlt
        have hgl : gl ((os.take k).map (mirO n) ++ (os.drop k).map (mapO (mirN n))) k = mapO (mirN n) (gl os k) := by
          rw [gl_eq hkm, List.getElem_append_right (by simp; omega), gl_eq hlt]
          simp [Nat.min_eq_left (Nat.le_of_lt hlt)]
        have hst : ((os.take k).map (mirO n) ++ (os.drop k).map (mapO (mirN n))).set k (mirO n (gl os k)) = (os.take (k + 1)).map (mirO n) ++ (os.drop (k + 1)).map (mapO (mirN n)) := by
          have hl : ((os.take k).map (mirO n)).length = k := by simp; omega
          rw [drop_gl hlt, List.map_cons, List.set_append_right _ _ (by omega), hl, Nat.sub_self, List.set_cons_zero, take_gl hlt, List.map_append, List.append_assoc]
          rfl
        obtain ⟨g, cap, hv, hg1, hg2⟩ := hO.shape (by rw [hml]; omega)
        rw [hml] at hv
        injection hv with hv _ hv2
        subst hv hv2
        obtain ⟨-, ⟨x1, x1'⟩, -, -, -, -, -, ⟨x7, x7'⟩⟩ := op_bds (HALL.out k hlt).1
        obtain ⟨t1, u1, -⟩ := hO.set1 hml k 1 hkm (by omega) 0
        obtain ⟨t7, u7, -⟩ := hO.set1 hml k 7 hkm (by omega) 0
        rw [hgl, show gi (mapO (mirN n) (gl os k)) 1 = gi (gl os k) 1 from rfl] at t1
        rw [hgl, show gi (mapO (mirN n) (gl os k)) 7 = gi (gl os k) 7 from rfl] at t7
        obtain ⟨o2, d2⟩ := OwT.set2 hO hml k 1 7 hkm (by omega) (by omega) (-gi (gl os k) 1) (-gi (gl os k) 7)
        rw [hgl, mir_two (H8.out _ (gl_mem hlt)), hst] at o2
        have HO2 := Lib.hid o2
        have HD2 := Lib.hid d2
        clear o2 d2 hgl hst
        go_wp2_with fail
        go_roundw
        case rel => exact ⟨k + 1, by omega, by go_num, HO2.out, hb4.trans (HD2.out.below (Nat.le_of_lt hz1) hb4.size), Nat.le_trans hz4 HD2.out.size⟩
        case measure => simp [intOf]; omega
      · obtain rfl : k = os.length := by omega
        rw [List.take_length, List.drop_length, List.map_nil, List.append_nil] at hO
        go_wp2_with fail
        go_ret2
        exact ⟨_, by rw [HE.out]; rfl, by rw [HE.out]; exact hO.mono (Nat.le_of_lt hz1) hz4, hb4⟩
end Go.Proofs.Ytgmppfhokfifgaa
