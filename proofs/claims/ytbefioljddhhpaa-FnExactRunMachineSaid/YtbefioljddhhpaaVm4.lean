/-
  Contracts: the reference's l07Ok (is a machine valid). Printed by gen_vm4.py.
-/
import Derived.Test.YtbefioljddhhpaaOkd
import Derived.Deep.RegionHeld3
import Derived.IntWalk
namespace Go.Proofs.Ytbefioljddhhpaa
set_option maxRecDepth 10000
open Go.RowKit

theorem Ow.same {w w' : World} {lo hi : Nat} {v : Value} {xs : List Int} (h : Ow w lo hi v xs) (e : w'.heap = w.heap) : Ow w' lo hi v xs := h.keep fun k _ _ => by rw [e]
theorem Sl.same {w w' : World} {B : Nat} {v : Value} {xs : List Int} (h : Sl w B v xs) (e : w'.heap = w.heap) : Sl w' B v xs := h.keep fun p _ => by simp only [World.cell?, e]
theorem grown_of {w w' : World} {lo hi B : Nat} {v : Value} {xs : List Int} (hg : w.grownBy w' v.ownBlock) (h : Ow w lo hi v xs) (hB : B ≤ lo) (hs : B ≤ w.heap.size) : Below B w w' := h.grown hg hB hs
theorem l07Info_q {T : Bool} {wd n a0 a1 a2 a3 a4 : Int} {v : Value} {ps : List Int} {B b o : Nat} {w : World} (hT : infB wd n a0 a1 a2 a3 a4 ps = T) (h : Sl w B v ps) (q0 : w.cell? ⟨b, o, none⟩ = some (.int .i64 a0)) (q1 : w.cell? ⟨b, o + 1, none⟩ = some (.int .i64 a1)) (q2 : w.cell? ⟨b, o + 2, none⟩ = some (.int .i64 a2)) (q3 : w.cell? ⟨b, o + 3, none⟩ = some (.int .i64 a3)) (q4 : w.cell? ⟨b, o + 4, none⟩ = some (.int .i64 a4)) (q5 : w.cell? ⟨b, o + 5, none⟩ = some v) (hw0 : 1 ≤ wd) (hw1 : wd ≤ 24) (hn0 : 0 ≤ n) (hn1 : n ≤ 300) (j x : Nat) :
    Calls Try.prog 102 #[.pointer (some ⟨b, o, none⟩), .int .i64 wd, .int .i64 n] (w.drewN (j + x)) fun e w'' => e = .returned (.bool T) ∧ ∃ m, w'' = w.drewN (j + m) :=
  (l07Info_any (w := w.drewN (j + x)) (h.drewN _) q0 q1 q2 q3 q4 q5 hw0 hw1 hn0 hn1).mono fun e w' ⟨he, m, hw⟩ => ⟨by rw [he, hT], x + m, by rw [hw, drewN_two, Nat.add_assoc]⟩
theorem l00Rises_q {T : Bool} {n : Int} {v : Value} {xs : List Int} {B : Nat} {w : World} (hT : risesB n xs = T) (h : Sl w B v xs) (x : Nat) :
    Calls Try.prog 104 #[v, .int .i64 0, .int .i64 (n - 1)] (w.drewN x) fun e w'' => e = .returned (.bool T) ∧ ∃ m, w'' = w.drewN m :=
  (l00Rises_any (w := w.drewN x) (h.drewN _)).mono fun e w' ⟨he, m, hw⟩ => ⟨by rw [he, hT], x + m, by rw [hw, drewN_two]⟩
set_option maxRecDepth 100000 in
set_option maxHeartbeats 25600000 in
theorem l07Ok_any {f b c l d : Value} {m : Mac} {B g : Nat} {w : World} (h : SlM w B f b c l d m) (hB : B ≤ w.heap.size) (hx : w.heap[g]? = some (.cells #[.int .i64 m.wd, .int .i64 m.rk, f, b, c, l, d] 27)) (hsz : lenSS m.fr + lenSS m.bk + m.dr.length ≤ 5000000) :
    Calls Try.prog 72 #[.pointer (some ⟨g, 0, none⟩)] w fun e w' => e = .returned (.bool (okM m)) ∧ Below w.heap.size w w' := by
  obtain ⟨Af, kf, rfl, hlf, hmf, -⟩ := id h.fr
  obtain ⟨Ab, kb, rfl, hlb, hmb, -⟩ := id h.bk
  obtain ⟨Ac, kc, rfl, hlc, hmc, -⟩ := id h.cr.cells
  obtain ⟨Al, kl, rfl, hll, hml, -⟩ := id h.lp.cells
  obtain ⟨Ad, kd, rfl, hld, hmd, -⟩ := id h.dr
  unfold maxLen at hmf hmb hmd
  have hgl := heap_lt hx
  have H := Lib.hid h
  have X := Lib.hid hx
  cases h1 : inR m.wd 1 24
  · have HT : Hid (okM m = false) := Lib.hid (by simp [okM, hdB, h1])
    obtain ⟨⟨p0, p1, p2, p3, p4, p5, p6⟩, -, -⟩ := box7 X.out
    clear hx h
    go_enter Try.func72, Try.ntmps72
    go_wp2_with fail
    go_quiet (first | (go_at_call_of 44 (Go.Value.int .i64 m.wd); first | exact quiet_same_on (is_same h1 (l00In_any m.wd 1 24 _)) | exact quiet_same_at (is_same h1 (l00In_any m.wd 1 24 _)) | exact quiet_same (is_same h1 (l00In_any m.wd 1 24 _))))
    go_wp2
    go_ret
    exact ⟨ret_bool HT.out.symm, drewN_below _ _ _⟩
  · skip
    cases h2 : inR m.rk (-3) 3
    · have HT : Hid (okM m = false) := Lib.hid (by simp [okM, hdB, h2])
      obtain ⟨⟨p0, p1, p2, p3, p4, p5, p6⟩, -, -⟩ := box7 X.out
      clear hx h
      go_enter Try.func72, Try.ntmps72
      go_wp2_with fail
      go_quiet (first | (go_at_call_of 44 (Go.Value.int .i64 m.wd); first | exact quiet_same_on (is_same h1 (l00In_any m.wd 1 24 _)) | exact quiet_same_at (is_same h1 (l00In_any m.wd 1 24 _)) | exact quiet_same (is_same h1 (l00In_any m.wd 1 24 _))) | (go_at_call_of 44 (Go.Value.int .i64 m.rk); first | exact quiet_same_on (is_same h2 (l00In_any m.rk (-3) 3 _)) | exact quiet_same_at (is_same h2 (l00In_any m.rk (-3) 3 _)) | exact quiet_same (is_same h2 (l00In_any m.rk (-3) 3 _))))
      go_wp2
      go_ret
      exact ⟨ret_bool HT.out.symm, drewN_below _ _ _⟩
    · skip
      by_cases n3 : (m.fr.length : Int) = m.wd
      · have N3 := Lib.hid n3
        have t3 : ((m.fr.length : Int) != m.wd) = false := by simp [n3]
        clear n3
        by_cases n4 : (m.bk.length : Int) = m.wd
        · have N4 := Lib.hid n4
          have t4 : ((m.bk.length : Int) != m.wd) = false := by simp [n4]
          clear n4
          by_cases n5 : m.cr.length = 4
          · have N5 := Lib.hid n5
            have t5 : ((m.cr.length : Int) != 4) = false := by simp; omega
            clear n5
            by_cases n6 : m.lp.length ≤ 300
            · have N6 := Lib.hid n6
              have t6 : ¬ (300 : Int) < (m.lp.length : Int) := by omega
              clear n6
              obtain ⟨w1a, w1b⟩ := inR_iff.1 h1
              have hlp : (m.lp.length : Int) ≤ 300 := by have := N6.out; omega
              have HH : Hid (okM m = (crsB m && infsB m.wd m.lp && shortB m.fr && shortB m.bk && risesB m.lp.length m.dr && parsB m.lp.length (allM m))) := Lib.hid (by simp [okM, hdB, h1, h2, N3.out, N4.out, N5.out, N6.out])
              obtain ⟨⟨p0, p1, p2, p3, p4, p5, p6⟩, -, -⟩ := box7 X.out
              clear hx h
              go_enter Try.func72, Try.ntmps72
              go_wp2_with fail
              go_quiet (first | (go_at_call_of 44 (Go.Value.int .i64 m.wd); first | exact quiet_same_on (is_same h1 (l00In_any m.wd 1 24 _)) | exact quiet_same_at (is_same h1 (l00In_any m.wd 1 24 _)) | exact quiet_same (is_same h1 (l00In_any m.wd 1 24 _))) | (go_at_call_of 44 (Go.Value.int .i64 m.rk); first | exact quiet_same_on (is_same h2 (l00In_any m.rk (-3) 3 _)) | exact quiet_same_at (is_same h2 (l00In_any m.rk (-3) 3 _)) | exact quiet_same (is_same h2 (l00In_any m.rk (-3) 3 _))))
              go_wp2_with fail
              clear p0 p1 p2 p3 p4 p5 p6
              go_loopw [3] (fun i wr => ∃ k : Nat, k ≤ m.cr.length ∧ i = .int .i64 k ∧ (∀ j, j < k → crOk m.wd (gc m.cr j) = true) ∧ Below w.heap.size w wr) (fun i _ => m.cr.length - (intOf i).toNat)
              case atStart => exact ⟨0, Nat.zero_le _, rfl, fun j h => absurd h (Nat.not_lt_zero _), drewN_below _ _ _⟩
              case round =>
                obtain ⟨k, hk, rfl, hgood, hb⟩ := hrel
                have HG := Lib.hid hgood
                have HB := Lib.hid hb
                have X2 := Lib.hid (keep_fwd hb X.out)
                have G := Lib.hid (H.out.below hb hB)
                have hz := hb.size
                clear hgood hb
                obtain ⟨⟨p0, p1, p2, p3, p4, p5, p6⟩, -, hgr⟩ := box7 X2.out
                by_cases hlt : k < m.cr.length
                · obtain ⟨Ax, kx, ex, hlx, hmx, hcx⟩ := SlK.cells G.out.cr
                  simp only [Value.slice.injEq] at ex
                  obtain ⟨rfl, -, rfl⟩ := ex
                  obtain ⟨b1, o1, rfl, hb1, hcell1⟩ := hcx (by omega)
                  obtain ⟨r0, r1⟩ := hcell1 k hlt
                  clear hcell1 hcx
                  have hbw : b1 < wr.heap.size := by omega
                  have HPB : Hid (crOk m.wd (gc m.cr k) = (inR (gc m.cr k).2 (-3) (m.wd + 3) && ((gc m.cr k).1 || (gc m.cr k).2 == 0))) := Lib.hid rfl
                  have HNX : Hid (crOk m.wd (gc m.cr k) = true → ∀ j, j < k + 1 → crOk m.wd (gc m.cr j) = true) := Lib.hid fun hx j hj => by
                      by_cases hjk : j < k
                      · exact HG.out j hjk
                      · obtain rfl : j = k := by omega
                        exact hx
                  have HNO : Hid (crOk m.wd (gc m.cr k) = false → okM m = false) := Lib.hid fun hx => by rw [HH.out, crsB_no hlt hx]; rfl
                  generalize (gc m.cr k).1 = x1 at *
                  generalize (gc m.cr k).2 = x2 at *
                  cases hi : inR x2 (-3) (m.wd + 3)
                  · have HT := Lib.hid (HNO.out (by rw [HPB.out, hi]; rfl))
                    go_wp2_with fail
                    go_quiet (first | (go_at_call 44; first | exact quiet_same_on (is_same hi (l00In_any _ _ _ _)) | exact quiet_same_at (is_same hi (l00In_any _ _ _ _)) | exact quiet_same (is_same hi (l00In_any _ _ _ _))))
                    go_wp2
                    go_ret
                    exact ⟨ret_bool HT.out.symm, HB.out.trans ((below_drewN (al1 wr _) _).mono hz)⟩
                  · cases hx1 : x1
                    · by_cases hx2 : x2 = 0
                      · subst hx2
                        have HX := Lib.hid (HNX.out (by rw [HPB.out, hi, hx1]; rfl))
                        subst hx1
                        go_wp2_with fail
                        go_quiet (first | (go_at_call 44; first | exact quiet_same_on (is_same hi (l00In_any _ _ _ _)) | exact quiet_same_at (is_same hi (l00In_any _ _ _ _)) | exact quiet_same (is_same hi (l00In_any _ _ _ _))))
                        go_wp2
                        go_roundw
                        case rel => exact ⟨k + 1, by omega, by go_num, HX.out, HB.out.trans ((below_drewN (al1 wr _) _).mono hz)⟩
                        case measure => simp [intOf]; omega
                      · have z2 : (x2 != 0) = true := by simp [hx2]
                        have HT := Lib.hid (HNO.out (by rw [HPB.out, hi, hx1]; simp [hx2]))
                        subst hx1
                        clear hx2
                        go_wp2_with fail
                        go_quiet (first | (go_at_call 44; first | exact quiet_same_on (is_same hi (l00In_any _ _ _ _)) | exact quiet_same_at (is_same hi (l00In_any _ _ _ _)) | exact quiet_same (is_same hi (l00In_any _ _ _ _))))
                        go_wp2
                        go_ret
                        exact ⟨ret_bool HT.out.symm, HB.out.trans ((below_drewN (al1 wr _) _).mono hz)⟩
                    · have HX := Lib.hid (HNX.out (by rw [HPB.out, hi, hx1]; rfl))
                      subst hx1
                      go_wp2_with fail
                      go_quiet (first | (go_at_call 44; first | exact quiet_same_on (is_same hi (l00In_any _ _ _ _)) | exact quiet_same_at (is_same hi (l00In_any _ _ _ _)) | exact quiet_same (is_same hi (l00In_any _ _ _ _))))
                      go_wp2
                      go_roundw
                      case rel => exact ⟨k + 1, by omega, by go_num, HX.out, HB.out.trans ((below_drewN (al1 wr _) _).mono hz)⟩
                      case measure => simp [intOf]; omega
                · have HC := Lib.hid (crsB_yes (m := m) fun j hj => HG.out j (by omega))
                  obtain ⟨W, hWW⟩ : ∃ x, x = wr := ⟨_, rfl⟩
                  subst hWW
                  have HH2 : Hid (okM m = (infsB m.wd m.lp && shortB m.fr && shortB m.bk && risesB m.lp.length m.dr && parsB m.lp.length (allM m))) := Lib.hid (by rw [HH.out, HC.out]; rfl)
                  clear HG HH HC
                  go_wp2_with fail
                  go_loopw [5] (fun i wr => ∃ k : Nat, k ≤ m.lp.length ∧ i = .int .i64 k ∧ (∀ j, j < k → infI m.wd m.lp j = true) ∧ ∃ n, wr = W.drewN n) (fun i _ => m.lp.length - (intOf i).toNat)
                  case atStart => exact ⟨0, Nat.zero_le _, rfl, fun j h => absurd h (Nat.not_lt_zero _), 0, rfl⟩
                  case round =>
                    obtain ⟨k, hk, rfl, hgood, n, rfl⟩ := hrel
                    have HG := Lib.hid hgood
                    clear hgood
                    by_cases hlt : k < m.lp.length
                    · obtain ⟨Ax, kx, ex, hlx, hmx, hcx⟩ := SlF.cells G.out.lp
                      simp only [Value.slice.injEq] at ex
                      obtain ⟨rfl, -, rfl⟩ := ex
                      obtain ⟨b1, o1, rfl, hb1, hcell1⟩ := hcx (by omega)
                      obtain ⟨hn, u, r5, s5⟩ := hcell1 k hlt
                      obtain ⟨r0, r1, r2, r3, r4⟩ := five_of hn
                      clear hcell1 hcx hn
                      have hk300 : (k : Int) ≤ 300 := by omega
                      have HPB : Hid (infI m.wd m.lp k = infB m.wd k (gi (gl m.lp k) 0) (gi (gl m.lp k) 1) (gi (gl m.lp k) 2) (gi (gl m.lp k) 3) (gi (gl m.lp k) 4) ((gl m.lp k).drop 5)) := Lib.hid rfl
                      have HNX : Hid (infI m.wd m.lp k = true → ∀ j, j < k + 1 → infI m.wd m.lp j = true) := Lib.hid fun hx j hj => by
                          by_cases hjk : j < k
                          · exact HG.out j hjk
                          · obtain rfl : j = k := by omega
                            exact hx
                      have HNO : Hid (infI m.wd m.lp k = false → okM m = false) := Lib.hid fun hx => by rw [HH2.out, infsB_no hlt hx]; rfl
                      generalize gi (gl m.lp k) 0 = x0 at *
                      generalize gi (gl m.lp k) 1 = x1 at *
                      generalize gi (gl m.lp k) 2 = x2 at *
                      generalize gi (gl m.lp k) 3 = x3 at *
                      generalize gi (gl m.lp k) 4 = x4 at *
                      generalize (gl m.lp k).drop 5 = ps at *
                      cases hT : infB m.wd k x0 x1 x2 x3 x4 ps
                      · have HT := Lib.hid (HNO.out (by rw [HPB.out, hT]))
                        go_wp2_with fail
                        go_quiet (first | (go_at_call 102; exact l07Info_q hT s5 r0 r1 r2 r3 r4 r5 w1a w1b (by omega) hk300 _ _))
                        go_wp2
                        go_ret
                        exact ⟨ret_bool HT.out.symm, HB.out.trans ((below_drewN (drewN_below _ _ _) _).mono hz)⟩
                      · have HX := Lib.hid (HNX.out (by rw [HPB.out, hT]))
                        go_wp2_with fail
                        go_quiet (first | (go_at_call 102; exact l07Info_q hT s5 r0 r1 r2 r3 r4 r5 w1a w1b (by omega) hk300 _ _))
                        go_wp2
                        go_roundw
                        case rel => exact ⟨k + 1, by omega, by go_num, HX.out, _, rfl⟩
                        case measure => simp [intOf]; omega
                    · have HC := Lib.hid (infsB_yes (wd := m.wd) (L := m.lp) fun j hj => HG.out j (by omega))
                      have HH3 : Hid (okM m = (shortB m.fr && shortB m.bk && risesB m.lp.length m.dr && parsB m.lp.length (allM m))) := Lib.hid (by rw [HH2.out, HC.out]; rfl)
                      clear HG HH2 HC
                      have hbW : Below w.heap.size w (W.drewN n) := HB.out.trans ((drewN_below W W.heap.size n).mono hz)
                      have hzW : w.heap.size ≤ (W.drewN n).heap.size := hbW.size
                      have G2 := Lib.hid (H.out.below hbW hB)
                      have HB2 := Lib.hid hbW
                      clear hbW G HB
                      go_wp2_with fail
                      refine (l07Lists_any G2.out.fr (Nat.le_trans hB hzW) (by omega)).mono ?_
                      rintro e w2 ⟨ra, rfl, hoa, hq⟩
                      obtain ⟨Ra, ca, rfl, -⟩ := id (hoa.sl (Nat.le_refl _))
                      have hb2 := HB2.out.trans (hq.mono hzW)
                      have hz2 := hb2.size
                      have G3 := Lib.hid (H.out.below hb2 hB)
                      have HB3 := Lib.hid hb2
                      have HOA := Lib.hid (hoa.mono hzW (Nat.le_refl _))
                      clear hq hoa hb2 p0 p1 p2 p3 p4 p5 p6 G2 HB2
                      obtain ⟨⟨p0, p1, p2, p3, p4, p5, p6⟩, -, -⟩ := box7 (keep_fwd HB3.out X.out)
                      go_wp2_with fail
                      refine (l07Lists_any G3.out.bk (Nat.le_trans hB hz2) (by omega)).mono ?_
                      rintro e w3 ⟨rb, rfl, hob, hq⟩
                      obtain ⟨Rb, cb, rfl, -⟩ := id (hob.sl (Nat.le_refl _))
                      have hb3 := HB3.out.trans (hq.mono hz2)
                      have hz3 := hb3.size
                      have G4 := Lib.hid (H.out.below hb3 hB)
                      have HB4 := Lib.hid hb3
                      have HOA2 := Lib.hid (HOA.out.below hq (Nat.le_refl _))
                      have HOB := Lib.hid hob
                      have hz23 := hq.size
                      clear hq hob hb3 p0 p1 p2 p3 p4 p5 p6 G3 HB3 HOA
                      obtain ⟨⟨p0, p1, p2, p3, p4, p5, p6⟩, -, -⟩ := box7 (keep_fwd HB4.out X.out)
                      have HLA := Lib.hid (show (lstR m.fr).length ≤ lenSS m.fr by unfold lstR; split; (rw [flatSS_len]; exact Nat.le_refl _); simp)
                      have HLB := Lib.hid (show (lstR m.bk).length ≤ lenSS m.bk by unfold lstR; split; (rw [flatSS_len]; exact Nat.le_refl _); simp)
                      cases hsa : shortB m.fr
                      · have HT := Lib.hid (show okM m = false by rw [HH3.out, hsa]; rfl)
                        go_wp2_with fail
                        go_quiet (fail)
                        go_wp2
                        go_ret
                        exact ⟨ret_bool HT.out.symm, below_drewN HB4.out _⟩
                      · skip
                        cases hsb : shortB m.bk
                        · have HT := Lib.hid (show okM m = false by rw [HH3.out, hsa, hsb]; rfl)
                          go_wp2_with fail
                          go_quiet (fail)
                          go_wp2
                          go_ret
                          exact ⟨ret_bool HT.out.symm, below_drewN HB4.out _⟩
                        · skip
                          cases hr : risesB m.lp.length m.dr
                          · have HT := Lib.hid (show okM m = false by rw [HH3.out, hsa, hsb, hr]; rfl)
                            go_wp2_with fail
                            go_quiet (first | (go_at_call 104; exact l00Rises_q hr G4.out.dr _))
                            go_wp2
                            go_ret
                            exact ⟨ret_bool HT.out.symm, below_drewN HB4.out _⟩
                          · have HH4 : Hid (okM m = parsB m.lp.length (allM m)) := Lib.hid (by rw [HH3.out, hsa, hsb, hr]; rfl)
                            have HAL : Hid (lstR m.fr ++ lstR m.bk ++ m.dr = allM m) := Lib.hid (by rw [lstR_yes hsa, lstR_yes hsb]; rfl)
                            clear HH3
                            go_wp2_with fail
                            go_quiet (first | (go_at_call 104; exact l00Rises_q hr G4.out.dr _))
                            go_wp2_with fail
                            have hnb : ∀ (n : Nat), Below w.heap.size w ((w3.drewN n).drew) := fun n => (below_drewN HB4.out n).drew
                            have HNB := Lib.hid hnb
                            clear hnb
                            have HK := Lib.hid (fun w' (hw : Below w.heap.size w w') => show w'.cell? ⟨g, 6, none⟩ = some (.slice Ad m.dr.length kd) ∧ Below w.heap.size w w' from ⟨by rw [hw.cell hgl]; exact (box7 X.out).1.2.2.2.2.2.2, hw⟩)
                            go_region_held3 (fun w' => w'.cell? ⟨g, 6, none⟩ = some (.slice Ad m.dr.length kd) ∧ Below w.heap.size w w') (exact HK.out _ (by first | assumption | exact HNB.out _ | exact below_drewN HB4.out _ | exact (below_drewN (below_drewN HB4.out _) _).drew))
                              (first
                                | (refine step_append_list rfl _ _ rfl _ w.heap.size w2.heap.size w3.heap.size (.slice Ra (lstR m.fr).length ca) (.slice Rb (lstR m.bk).length cb) (lstR m.fr) (lstR m.bk) rfl rfl (Ow.same HOA2.out rfl) (Sl.same (HOB.out.sl (Nat.le_refl _)) rfl) hz3 (by have := HLA.out; have := HLB.out; omega) ?_; intro v5 w5 ho5 hg5; obtain ⟨A5, c5, rfl, -⟩ := id (ho5.sl (Nat.le_refl _)); have hb5 : Below w.heap.size w w5 := Below.trans (by first | exact HNB.out _ | exact below_drewN HB4.out _ | exact (below_drewN (below_drewN HB4.out _) _).drew | exact HB4.out) (grown_of hg5 (Ow.same HOA2.out rfl) (Nat.le_refl _) hz3))
                                | (refine step_append_list rfl _ _ rfl w5 w.heap.size w5.heap.size B _ _ (lstR m.fr ++ lstR m.bk) m.dr rfl rfl ho5 (H.out.dr.below hb5 hB) hb5.size (by have := HLA.out; have := HLB.out; rw [List.length_append]; omega) ?_; intro v6 w6 ho6 hg6; obtain ⟨A6, c6, rfl, -⟩ := id (ho6.sl (Nat.le_refl _)); have hb6 : Below w.heap.size w w6 := Below.trans hb5 (ho5.grown hg6 (Nat.le_refl _) hb5.size)))
                            have hsum : (lstR m.fr).length + ((lstR m.bk).length + m.dr.length) = (allM m).length := by rw [← HAL.out]; simp
                            rw [HAL.out] at ho6
                            try simp only [List.length_append, Nat.add_assoc]
                            rw [hsum]
                            clear hsum
                            have HB6 := Lib.hid hb6
                            have S6 := Lib.hid (ho6.sl (B := w6.heap.size) (Nat.le_refl _))
                            have hz6 := hb6.size
                            clear hb6 ho6 hg6 ho5 hg5 hb5 HK HNB p0 p1 p2 p3 p4 p5 p6
                            obtain ⟨⟨-, -, -, -, -, p5, -⟩, -, -⟩ := box7 (keep_fwd HB6.out X.out)
                            generalize hall : allM m = all at *
                            have HALL := Lib.hid hall
                            clear hall
                            go_wp2_with fail
                            go_loopw [11] (fun i wr => ∃ k : Nat, k ≤ all.length ∧ i = .int .i64 k ∧ (∀ j, j < k → parB m.lp.length all j = true) ∧ ∃ n, wr = w6.drewN n) (fun i _ => all.length - (intOf i).toNat)
                            case atStart => exact ⟨0, Nat.zero_le _, rfl, fun j h => absurd h (Nat.not_lt_zero _), 0, rfl⟩
                            case round =>
                              obtain ⟨k, hk, rfl, hgood, n, rfl⟩ := hrel
                              have HG := Lib.hid hgood
                              clear hgood
                              by_cases hlt : k < all.length
                              · obtain ⟨A9, c9, e9, hl9, hm9, -, hcell⟩ := id S6.out
                                unfold maxLen at hm9
                                simp only [Value.slice.injEq] at e9
                                obtain ⟨rfl, -, rfl⟩ := e9
                                obtain ⟨b1, off, rfl, hbB, hcc⟩ := hcell (by omega)
                                have r1 := hcc k hlt
                                clear hcell hcc
                                have hs2 := sl_pre S6.out k hk
                                have HPB : Hid (parB m.lp.length all k = (inR (gi all k) 0 ((m.lp.length : Int) - 1) && !hasI (all.take k) (gi all k))) := Lib.hid rfl
                                have HNX : Hid (parB m.lp.length all k = true → ∀ j, j < k + 1 → parB m.lp.length all j = true) := Lib.hid fun hx j hj => by
                                    by_cases hjk : j < k
                                    · exact HG.out j hjk
                                    · obtain rfl : j = k := by omega
                                      exact hx
                                have HNO : Hid (parB m.lp.length all k = false → okM m = false) := Lib.hid fun hx => by rw [HH4.out, parsB_no hlt hx]
                                generalize gi all k = x at *
                                generalize all.take k = tk at *
                                have hwr : IntKind.i64.wrap ((m.lp.length : Int) - 1) = (m.lp.length : Int) - 1 := IntWalk.i64_in _ (by omega)
                                cases hi : inR x 0 ((m.lp.length : Int) - 1)
                                · have HT := Lib.hid (HNO.out (by rw [HPB.out, hi]; rfl))
                                  go_wp2_with fail
                                  go_quiet (first | (go_at_call 44; first | exact quiet_same_on (is_same hi (l00In_any _ _ _ _)) | exact quiet_same_at (is_same hi (l00In_any _ _ _ _)) | exact quiet_same (is_same hi (l00In_any _ _ _ _))))
                                  clear hwr
                                  go_wp2
                                  go_ret
                                  exact ⟨ret_bool HT.out.symm, HB6.out.trans ((below_drewN (drewN_below _ _ _) _).mono hz6)⟩
                                · skip
                                  cases hh : hasI tk x
                                  · have HX := Lib.hid (HNX.out (by rw [HPB.out, hi, hh]; rfl))
                                    go_wp2_with fail
                                    go_quiet (first | (go_at_call 44; first | exact quiet_same_on (is_same hi (l00In_any _ _ _ _)) | exact quiet_same_at (is_same hi (l00In_any _ _ _ _)) | exact quiet_same (is_same hi (l00In_any _ _ _ _))) | (go_at_call 105; first | exact quiet_same_on (is_same hh (l00Has_any _ _ _ _ _ (hs2.drewN _))) | exact quiet_same_at (is_same hh (l00Has_any _ _ _ _ _ (hs2.drewN _))) | exact quiet_same (is_same hh (l00Has_any _ _ _ _ _ (hs2.drewN _)))))
                                    clear hwr
                                    go_wp2
                                    go_roundw
                                    case rel => exact ⟨k + 1, by omega, by go_num, HX.out, _, rfl⟩
                                    case measure => simp [intOf]; omega
                                  · have HT := Lib.hid (HNO.out (by rw [HPB.out, hi, hh]; rfl))
                                    go_wp2_with fail
                                    go_quiet (first | (go_at_call 44; first | exact quiet_same_on (is_same hi (l00In_any _ _ _ _)) | exact quiet_same_at (is_same hi (l00In_any _ _ _ _)) | exact quiet_same (is_same hi (l00In_any _ _ _ _))) | (go_at_call 105; first | exact quiet_same_on (is_same hh (l00Has_any _ _ _ _ _ (hs2.drewN _))) | exact quiet_same_at (is_same hh (l00Has_any _ _ _ _ _ (hs2.drewN _))) | exact quiet_same (is_same hh (l00Has_any _ _ _ _ _ (hs2.drewN _)))))
                                    clear hwr
                                    go_wp2
                                    go_ret
                                    exact ⟨ret_bool HT.out.symm, HB6.out.trans ((below_drewN (drewN_below _ _ _) _).mono hz6)⟩
                              · have HT : Hid (okM m = true) := Lib.hid (by rw [HH4.out, parsB_yes fun j hj => HG.out j (by omega)])
                                go_wp2
                                go_ret
                                exact ⟨ret_bool HT.out.symm, HB6.out.trans ((drewN_below w6 _ n).mono hz6)⟩
            · have HT : Hid (okM m = false) := Lib.hid (by simp [okM, hdB, n6])
              have t6 : (300 : Int) < (m.lp.length : Int) := by omega
              clear n6
              obtain ⟨⟨p0, p1, p2, p3, p4, p5, p6⟩, -, -⟩ := box7 X.out
              clear hx h
              go_enter Try.func72, Try.ntmps72
              go_wp2_with fail
              go_quiet (first | (go_at_call_of 44 (Go.Value.int .i64 m.wd); first | exact quiet_same_on (is_same h1 (l00In_any m.wd 1 24 _)) | exact quiet_same_at (is_same h1 (l00In_any m.wd 1 24 _)) | exact quiet_same (is_same h1 (l00In_any m.wd 1 24 _))) | (go_at_call_of 44 (Go.Value.int .i64 m.rk); first | exact quiet_same_on (is_same h2 (l00In_any m.rk (-3) 3 _)) | exact quiet_same_at (is_same h2 (l00In_any m.rk (-3) 3 _)) | exact quiet_same (is_same h2 (l00In_any m.rk (-3) 3 _))))
              go_wp2
              go_ret
              exact ⟨ret_bool HT.out.symm, drewN_below _ _ _⟩
          · have HT : Hid (okM m = false) := Lib.hid (by simp [okM, hdB, n5])
            have t5 : ((m.cr.length : Int) != 4) = true := by simp; omega
            clear n5
            obtain ⟨⟨p0, p1, p2, p3, p4, p5, p6⟩, -, -⟩ := box7 X.out
            clear hx h
            go_enter Try.func72, Try.ntmps72
            go_wp2_with fail
            go_quiet (first | (go_at_call_of 44 (Go.Value.int .i64 m.wd); first | exact quiet_same_on (is_same h1 (l00In_any m.wd 1 24 _)) | exact quiet_same_at (is_same h1 (l00In_any m.wd 1 24 _)) | exact quiet_same (is_same h1 (l00In_any m.wd 1 24 _))) | (go_at_call_of 44 (Go.Value.int .i64 m.rk); first | exact quiet_same_on (is_same h2 (l00In_any m.rk (-3) 3 _)) | exact quiet_same_at (is_same h2 (l00In_any m.rk (-3) 3 _)) | exact quiet_same (is_same h2 (l00In_any m.rk (-3) 3 _))))
            go_wp2
            go_ret
            exact ⟨ret_bool HT.out.symm, drewN_below _ _ _⟩
        · have HT : Hid (okM m = false) := Lib.hid (by simp [okM, hdB, n4])
          have t4 : ((m.bk.length : Int) != m.wd) = true := by simp [n4]
          clear n4
          obtain ⟨⟨p0, p1, p2, p3, p4, p5, p6⟩, -, -⟩ := box7 X.out
          clear hx h
          go_enter Try.func72, Try.ntmps72
          go_wp2_with fail
          go_quiet (first | (go_at_call_of 44 (Go.Value.int .i64 m.wd); first | exact quiet_same_on (is_same h1 (l00In_any m.wd 1 24 _)) | exact quiet_same_at (is_same h1 (l00In_any m.wd 1 24 _)) | exact quiet_same (is_same h1 (l00In_any m.wd 1 24 _))) | (go_at_call_of 44 (Go.Value.int .i64 m.rk); first | exact quiet_same_on (is_same h2 (l00In_any m.rk (-3) 3 _)) | exact quiet_same_at (is_same h2 (l00In_any m.rk (-3) 3 _)) | exact quiet_same (is_same h2 (l00In_any m.rk (-3) 3 _))))
          go_wp2
          go_ret
          exact ⟨ret_bool HT.out.symm, drewN_below _ _ _⟩
      · have HT : Hid (okM m = false) := Lib.hid (by simp [okM, hdB, n3])
        have t3 : ((m.fr.length : Int) != m.wd) = true := by simp [n3]
        clear n3
        obtain ⟨⟨p0, p1, p2, p3, p4, p5, p6⟩, -, -⟩ := box7 X.out
        clear hx h
        go_enter Try.func72, Try.ntmps72
        go_wp2_with fail
        go_quiet (first | (go_at_call_of 44 (Go.Value.int .i64 m.wd); first | exact quiet_same_on (is_same h1 (l00In_any m.wd 1 24 _)) | exact quiet_same_at (is_same h1 (l00In_any m.wd 1 24 _)) | exact quiet_same (is_same h1 (l00In_any m.wd 1 24 _))) | (go_at_call_of 44 (Go.Value.int .i64 m.rk); first | exact quiet_same_on (is_same h2 (l00In_any m.rk (-3) 3 _)) | exact quiet_same_at (is_same h2 (l00In_any m.rk (-3) 3 _)) | exact quiet_same (is_same h2 (l00In_any m.rk (-3) 3 _))))
        go_wp2
        go_ret
        exact ⟨ret_bool HT.out.symm, drewN_below _ _ _⟩
end Go.Proofs.Ytbefioljddhhpaa
