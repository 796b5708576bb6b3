/-
  Contract: the program's ValidMachine. Printed by gen_vm6.py.
-/
import Derived.Test.YtbefioljddhhpaaVm5
namespace Go.Proofs.Ytbefioljddhhpaa
set_option maxRecDepth 10000
open Go.RowKit

theorem short_app (a b : List (List Int)) : shortB (a ++ b) = (shortB a && shortB b) := by simp [shortB]
theorem short_parts {a b : List (List Int)} (h : shortB (a ++ b) = true) : shortB a = true ∧ shortB b = true := by rw [short_app, Bool.and_eq_true] at h; exact h
def strB (xs : List Int) (k : Nat) : Prop := ∀ j, 0 < j → j < k → gi xs (j - 1) < gi xs j
theorem strB_zero (xs : List Int) : strB xs 0 := fun _ _ h => absurd h (Nat.not_lt_zero _)
theorem strB_step {xs : List Int} {k : Nat} (h : strB xs k) (hk : 0 < k → gi xs (k - 1) < gi xs k) : strB xs (k + 1) := fun j h0 hj => by
  by_cases e : j < k
  · exact h j h0 e
  · obtain rfl : j = k := by omega
    exact hk h0
theorem rises_out {n : Int} {xs : List Int} {k : Nat} (hk : k < xs.length) (h0 : 0 < k) (h : gi xs k ≤ gi xs (k - 1)) : risesB n xs = false := risesB_no hk (by simp [risB, h0, h])
theorem rises_pars {m : Mac} (h : strB m.dr m.dr.length) : (risesB m.lp.length m.dr && parsB m.lp.length (allM m)) = parsB m.lp.length (allM m) := by
  cases hp : parsB m.lp.length (allM m)
  · simp
  · have : risesB m.lp.length m.dr = true := risesB_iff.2 ⟨fun x hx => (parsB_iff.1 hp).1 x (by simp [allM, hx]), rises_pair.2 h⟩
    rw [this]; rfl
theorem concatFB_at {fv bv : Value} {fr bk : List (List Int)} {B : Nat} {t1 : TypeId} {w : World} (o : Obj) (hf : SlS w B fv fr) (hb : SlS w B bv bk) (hB : B ≤ w.heap.size) (hsz : fr.length + bk.length ≤ 100000) :
    Calls Try.prog 74 #[.slice (some ⟨w.heap.size + 1, 0, none⟩) 2 2] ((w.alloc o).alloc (.cells #[fv, bv] t1)) fun e w' => ∃ r, e = .returned r ∧ SlS w' w'.heap.size r (fr ++ bk) ∧ Below w.heap.size w w' ∧ w'.heap[w.heap.size]? = some o := by
  have e1 : (w.alloc o).heap.size = w.heap.size + 1 := World.size_alloc _ _
  have hf1 := hf.below (al1 w o) hB
  have hb1 := hb.below (al1 w o) hB
  refine (concatFB_any (w := w.alloc o) (g1 := w.heap.size + 1) (t1 := t1) hf1 hb1 (by omega) (al1 _ _) ?_ hsz).mono ?_
  · have := alloc_at_ (w.alloc o) (.cells #[fv, bv] t1)
    rw [e1] at this
    exact this
  · rintro e w' ⟨r, rfl, hs, hb'⟩
    exact ⟨r, rfl, hs, (al1 w o).trans (hb'.mono (by omega)), keep_fwd hb' (alloc_at_ w o)⟩
set_option maxRecDepth 100000 in
set_option maxHeartbeats 12800000 in
theorem ValidMachine_any {f b c l d : Value} {m : Mac} {B : Nat} {w : World} (h : SlM w B f b c l d m) (hB : B ≤ w.heap.size) :
    Calls Try.prog 22 #[.agg #[.int .i64 m.wd, .int .i64 m.rk, f, b, c, l, d]] w fun e w' => e = .returned (.bool (okM m)) ∧ Below w.heap.size w w' := by
  obtain ⟨Af, kf, rfl, hlf, hmf, -⟩ := id h.fr
  obtain ⟨Ab, kb, rfl, hlb, hmb, -⟩ := id h.bk
  obtain ⟨Ac, kc, rfl, hlc, hmc, -⟩ := id h.cr.cells
  obtain ⟨Al, kl, rfl, hll, hml, -⟩ := id h.lp.cells
  obtain ⟨Ad, kd, rfl, hld, hmd, -⟩ := id h.dr
  unfold maxLen at hmf hmb hmd
  have H := Lib.hid h
  clear h
  cases h1 : inR m.wd 1 24
  · have HT : Hid (okM m = false) := Lib.hid (by simp [okM, hdB, h1])
    go_enter Try.func22, Try.ntmps22
    go_wp2_with ((go_at_call 46; refine (is_same h1 (within_any m.wd 1 24 _)).mono ?_; rintro e w' ⟨rfl, rfl⟩))
    go_ret
    exact ⟨ret_bool HT.out.symm, al1 _ _⟩
  · skip
    cases h2 : inR m.rk (-3) 3
    · have HT : Hid (okM m = false) := Lib.hid (by simp [okM, hdB, h2])
      go_enter Try.func22, Try.ntmps22
      go_wp2_with (first | (go_at_call 46; refine (is_same h1 (within_any m.wd 1 24 _)).mono ?_; rintro e w' ⟨rfl, rfl⟩) | (go_at_call 73; refine (is_same h2 (isRack_any _ _)).mono ?_; rintro e w' ⟨rfl, rfl⟩))
      go_ret
      exact ⟨ret_bool HT.out.symm, al1 _ _⟩
    · skip
      by_cases n3 : (m.fr.length : Int) = m.wd
      · have N3 := Lib.hid n3
        have t3 : ((m.fr.length : Int) != m.wd) = false := by simp [n3]
        clear n3
        by_cases n4 : (m.bk.length : Int) = m.wd
        · have N4 := Lib.hid n4
          have t4 : ((m.bk.length : Int) != m.wd) = false := by simp [n4]
          clear n4
          by_cases n5 : m.cr.length = 4
          · have N5 := Lib.hid n5
            have t5 : ((m.cr.length : Int) != 4) = false := by simp; omega
            clear n5
            by_cases n6 : m.lp.length ≤ 300
            · have N6 := Lib.hid n6
              have t6 : ¬ (300 : Int) < (m.lp.length : Int) := by omega
              clear n6
              obtain ⟨w1a, w1b⟩ := inR_iff.1 h1
              have hlp : m.lp.length ≤ 300 := N6.out
              have hfb : m.fr.length + m.bk.length ≤ 100000 := by have := N3.out; have := N4.out; omega
              have HH : Hid (okM m = (crsB m && infsB m.wd m.lp && shortB m.fr && shortB m.bk && risesB m.lp.length m.dr && parsB m.lp.length (allM m))) := Lib.hid (by simp [okM, hdB, h1, h2, N3.out, N4.out, N5.out, N6.out])
              go_enter Try.func22, Try.ntmps22
              go_wp2_with (first | (go_at_call 46; refine (is_same h1 (within_any m.wd 1 24 _)).mono ?_; rintro e w' ⟨rfl, rfl⟩) | (go_at_call 73; refine (is_same h2 (isRack_any _ _)).mono ?_; rintro e w' ⟨rfl, rfl⟩) | (go_at_call 74; (refine (concatFB_at (B := B) _ H.out.fr H.out.bk hB hfb).mono ?_); rintro e w3 ⟨r3, rfl, hs3, hb3, hx3⟩; (generalize hR : m.fr ++ m.bk = R at *); obtain ⟨A3, c3, rfl, hl3, hm3, -⟩ := id hs3; have hz3 := hb3.size; have HR := Lib.hid hR; clear hR; have HB3 := Lib.hid hb3; have HS3 := Lib.hid hs3; have X := Lib.hid hx3; clear hb3 hs3 hx3))
              unfold maxLen at hm3
              have HSF : Hid (shortB R = (shortB m.fr && shortB m.bk)) := Lib.hid (by rw [← HR.out, short_app])
              go_loop [55] (fun i => ∃ k : Nat, k ≤ R.length ∧ i = .int .i64 k ∧ ∀ j, j < k → (gl R j).length ≤ 4) (fun i => R.length - (intOf i).toNat)
              case atStart => exact ⟨0, Nat.zero_le _, rfl, fun j h => absurd h (Nat.not_lt_zero _)⟩
              case round =>
                obtain ⟨k, hk, rfl, hgood⟩ := hrel
                have HG := Lib.hid hgood
                clear hgood
                by_cases hlt : k < R.length
                · obtain ⟨A9, c9, e9, -, -, -, hcell⟩ := id HS3.out
                  simp only [Value.slice.injEq] at e9
                  obtain ⟨rfl, -, rfl⟩ := e9
                  obtain ⟨b1, off, rfl, hbB, hcc⟩ := hcell (by omega)
                  obtain ⟨u, q0, s0⟩ := hcc k hlt
                  obtain ⟨Au, cu, rfl, hul, hum, -⟩ := id s0
                  unfold maxLen at hum
                  clear hcell hcc s0
                  have HNO : Hid (¬ (gl R k).length ≤ 4 → okM m = false) := Lib.hid fun hx => by
                      have := shortB_no hlt hx
                      rw [HSF.out] at this
                      rw [HH.out, Bool.and_assoc (crsB m && infsB m.wd m.lp), this]; simp
                  have HNX : Hid ((gl R k).length ≤ 4 → ∀ j, j < k + 1 → (gl R j).length ≤ 4) := Lib.hid fun hx j hj => by
                      by_cases hjk : j < k
                      · exact HG.out j hjk
                      · obtain rfl : j = k := by omega
                        exact hx
                  generalize gl R k = cur at *
                  by_cases h4 : cur.length ≤ 4
                  · have h4I : ¬ (4 : Int) < (cur.length : Int) := by omega
                    have HX := Lib.hid (HNX.out h4)
                    go_wp2_with fail
                    go_round
                    case rel => exact ⟨k + 1, by omega, by go_num, HX.out⟩
                    case measure => simp [intOf]; omega
                  · have h4I : (4 : Int) < (cur.length : Int) := by omega
                    have HT := Lib.hid (HNO.out h4)
                    go_wp2_with fail
                    go_ret
                    exact ⟨ret_bool HT.out.symm, HB3.out⟩
                · have HSH := Lib.hid (short_parts (by rw [HR.out]; exact shortB_yes fun j hj => HG.out j (by omega)))
                  have HH2 : Hid (okM m = (crsB m && infsB m.wd m.lp && risesB m.lp.length m.dr && parsB m.lp.length (allM m))) := Lib.hid (by rw [HH.out, HSH.out.1, HSH.out.2]; simp)
                  clear HG HH HSF HSH HS3
                  obtain ⟨⟨p0, p1, p2, p3, p4, p5, p6⟩, -, -⟩ := box7 X.out
                  have hb0 := HB3.out
                  clear p1 p2 p3
                  go_wp2_with fail
                  clear p0 p4 p5 p6
                  go_loopw [66] (fun i wr => ∃ k : Nat, k ≤ m.cr.length ∧ i = .int .i64 k ∧ (∀ j, j < k → crOk m.wd (gc m.cr j) = true) ∧ Below w3.heap.size w3 wr) (fun i _ => m.cr.length - (intOf i).toNat)
                  case atStart => exact ⟨0, Nat.zero_le _, rfl, fun j h => absurd h (Nat.not_lt_zero _), Below.refl _ _⟩
                  case round =>
                    obtain ⟨k, hk, rfl, hgood, hb⟩ := hrel
                    clear hb0
                    have HG := Lib.hid hgood
                    have HB4 := Lib.hid hb
                    have hz4 := hb.size
                    have HB := Lib.hid (HB3.out.trans (hb.mono hz3))
                    have G := Lib.hid (H.out.below HB.out hB)
                    have X4 := Lib.hid (keep_fwd hb X.out)
                    clear hgood hb
                    obtain ⟨⟨p0, p1, p2, p3, p4, p5, p6⟩, -, -⟩ := box7 X4.out
                    by_cases hlt : k < m.cr.length
                    · clear p1 p2 p3 p4 p5 p6
                      have hgl := heap_lt X4.out
                      obtain ⟨Ax, kx, ex, hlx, hmx, hcx⟩ := SlK.cells G.out.cr
                      simp only [Value.slice.injEq] at ex
                      obtain ⟨rfl, -, rfl⟩ := ex
                      obtain ⟨b1, o1, rfl, hb1, hcell1⟩ := hcx (by omega)
                      obtain ⟨r0, r1⟩ := hcell1 k hlt
                      clear hcell1 hcx
                      have hbw : b1 < wr.heap.size := by omega
                      have HPB : Hid (crOk m.wd (gc m.cr k) = (inR (gc m.cr k).2 (-3) (m.wd + 3) && ((gc m.cr k).1 || (gc m.cr k).2 == 0))) := Lib.hid rfl
                      have HNX : Hid (crOk m.wd (gc m.cr k) = true → ∀ j, j < k + 1 → crOk m.wd (gc m.cr j) = true) := Lib.hid fun hx j hj => by
                          by_cases hjk : j < k
                          · exact HG.out j hjk
                          · obtain rfl : j = k := by omega
                            exact hx
                      have HNO : Hid (crOk m.wd (gc m.cr k) = false → okM m = false) := Lib.hid fun hx => by rw [HH2.out, crsB_no hlt hx]; rfl
                      generalize (gc m.cr k).1 = x1 at *
                      generalize (gc m.cr k).2 = x2 at *
                      have ha := al1 wr (.cells #[.bool x1, .int .i64 x2] 78)
                      have HA := Lib.hid (HB4.out.trans (ha.mono hz4))
                      clear ha
                      cases hi : inR x2 (-3) (m.wd + 3)
                      · have HT := Lib.hid (HNO.out (by rw [HPB.out, hi]; rfl))
                        go_wp2_with (go_at_call 46; refine (is_same hi (within_any _ _ _ _)).mono ?_; rintro e w' ⟨rfl, rfl⟩)
                        go_ret
                        exact ⟨ret_bool HT.out.symm, HB3.out.trans (HA.out.mono hz3)⟩
                      · cases hx1 : x1
                        · by_cases hx2 : x2 = 0
                          · subst hx2
                            have HX := Lib.hid (HNX.out (by rw [HPB.out, hi, hx1]; rfl))
                            subst hx1
                            go_wp2_with (go_at_call 46; refine (is_same hi (within_any _ _ _ _)).mono ?_; rintro e w' ⟨rfl, rfl⟩)
                            go_roundw
                            case rel => exact ⟨k + 1, by omega, by go_num, HX.out, HA.out⟩
                            case measure => simp [intOf]; omega
                          · have z2 : (x2 != 0) = true := by simp [hx2]
                            have HT := Lib.hid (HNO.out (by rw [HPB.out, hi, hx1]; simp [hx2]))
                            subst hx1
                            clear hx2
                            go_wp2_with (go_at_call 46; refine (is_same hi (within_any _ _ _ _)).mono ?_; rintro e w' ⟨rfl, rfl⟩)
                            go_ret
                            exact ⟨ret_bool HT.out.symm, HB3.out.trans (HA.out.mono hz3)⟩
                        · have HX := Lib.hid (HNX.out (by rw [HPB.out, hi, hx1]; rfl))
                          subst hx1
                          go_wp2_with (go_at_call 46; refine (is_same hi (within_any _ _ _ _)).mono ?_; rintro e w' ⟨rfl, rfl⟩)
                          go_roundw
                          case rel => exact ⟨k + 1, by omega, by go_num, HX.out, HA.out⟩
                          case measure => simp [intOf]; omega
                    · have HC := Lib.hid (crsB_yes (m := m) fun j hj => HG.out j (by omega))
                      obtain ⟨w5, hw5⟩ : ∃ x, x = wr := ⟨_, rfl⟩
                      subst hw5
                      have HH3 : Hid (okM m = (infsB m.wd m.lp && risesB m.lp.length m.dr && parsB m.lp.length (allM m))) := Lib.hid (by rw [HH2.out, HC.out]; rfl)
                      have hz5 := HB.out.size
                      clear HG HH2 HC HB4 G X
                      go_wp2_with fail
                      clear p0 p1 p2 p3 p4 p5 p6
                      go_loopw [91] (fun i wr => ∃ k : Nat, k ≤ m.lp.length ∧ i = .int .i64 k ∧ (∀ j, j < k → infI m.wd m.lp j = true) ∧ Below w5.heap.size w5 wr) (fun i _ => m.lp.length - (intOf i).toNat)
                      case atStart => exact ⟨0, Nat.zero_le _, rfl, fun j h => absurd h (Nat.not_lt_zero _), Below.refl _ _⟩
                      case round =>
                        obtain ⟨k, hk, rfl, hgood, hb⟩ := hrel
                        have HG := Lib.hid hgood
                        have HB5 := Lib.hid hb
                        have hz6 := hb.size
                        have HB6 := Lib.hid (HB.out.trans (hb.mono hz5))
                        have G := Lib.hid (H.out.below HB6.out hB)
                        have X5 := Lib.hid (keep_fwd hb X4.out)
                        clear hgood hb
                        obtain ⟨⟨p0, p1, p2, p3, p4, p5, p6⟩, -, -⟩ := box7 X5.out
                        by_cases hlt : k < m.lp.length
                        · clear p1 p2 p3 p4 p5 p6
                          obtain ⟨Ax, kx, ex, hlx, hmx, hcx⟩ := SlF.cells G.out.lp
                          simp only [Value.slice.injEq] at ex
                          obtain ⟨rfl, -, rfl⟩ := ex
                          obtain ⟨b1, o1, rfl, hb1, hcell1⟩ := hcx (by omega)
                          obtain ⟨hn, u, r5, s5⟩ := hcell1 k hlt
                          obtain ⟨r0, r1, r2, r3, r4⟩ := five_of hn
                          clear hcell1 hcx hn
                          have hbw : b1 < wr.heap.size := by omega
                          have hk300 : (k : Int) ≤ 300 := by omega
                          have HPB : Hid (infI m.wd m.lp k = infB m.wd k (gi (gl m.lp k) 0) (gi (gl m.lp k) 1) (gi (gl m.lp k) 2) (gi (gl m.lp k) 3) (gi (gl m.lp k) 4) ((gl m.lp k).drop 5)) := Lib.hid rfl
                          have HNX : Hid (infI m.wd m.lp k = true → ∀ j, j < k + 1 → infI m.wd m.lp j = true) := Lib.hid fun hx j hj => by
                              by_cases hjk : j < k
                              · exact HG.out j hjk
                              · obtain rfl : j = k := by omega
                                exact hx
                          have HNO : Hid (infI m.wd m.lp k = false → okM m = false) := Lib.hid fun hx => by rw [HH3.out, infsB_no hlt hx]; rfl
                          generalize gi (gl m.lp k) 0 = x0 at *
                          generalize gi (gl m.lp k) 1 = x1 at *
                          generalize gi (gl m.lp k) 2 = x2 at *
                          generalize gi (gl m.lp k) 3 = x3 at *
                          generalize gi (gl m.lp k) 4 = x4 at *
                          generalize (gl m.lp k).drop 5 = ps at *
                          have S5 := Lib.hid s5
                          clear s5
                          have hg := heap_lt X5.out
                          have ha := al1 wr (.cells #[.int .i64 x0, .int .i64 x1, .int .i64 x2, .int .i64 x3, .int .i64 x4, u] 80)
                          have HA := Lib.hid (HB5.out.trans (ha.mono hz6))
                          have HSU := Lib.hid (S5.out.below ha (by omega))
                          have hpc : (wr.alloc (.cells #[.int .i64 x0, .int .i64 x1, .int .i64 x2, .int .i64 x3, .int .i64 x4, u] 80)).cell? ⟨w.heap.size, 0, none⟩ = some (.int .i64 m.wd) := by rw [ha.cell (by simp only; omega)]; exact p0
                          have HPC := Lib.hid hpc
                          clear ha hpc
                          obtain ⟨Au, cu, rfl, hul, hum, -⟩ := id S5.out
                          unfold maxLen at hum
                          cases hT : infB m.wd k x0 x1 x2 x3 x4 ps
                          · have HT := Lib.hid (HNO.out (by rw [HPB.out, hT]))
                            go_wp2_with (go_at_call 75; (refine (is_below hT (isInfo_any HSU.out (by simp; omega) HPC.out w1a w1b (by omega) hk300)).mono ?_); rintro e w7 ⟨rfl, hb7⟩; have HB7 := Lib.hid hb7; clear hb7)
                            go_ret
                            exact ⟨ret_bool HT.out.symm, HB.out.trans ((HA.out.trans (HB7.out.mono (by have := HA.out.size; omega))).mono hz5)⟩
                          · have HX := Lib.hid (HNX.out (by rw [HPB.out, hT]))
                            go_wp2_with (go_at_call 75; (refine (is_below hT (isInfo_any HSU.out (by simp; omega) HPC.out w1a w1b (by omega) hk300)).mono ?_); rintro e w7 ⟨rfl, hb7⟩; have HB7 := Lib.hid hb7; clear hb7)
                            go_roundw
                            case rel => exact ⟨k + 1, by omega, by go_num, HX.out, HA.out.trans (HB7.out.mono (by have := HA.out.size; omega))⟩
                            case measure => simp [intOf]; omega
                        · have HC := Lib.hid (infsB_yes (wd := m.wd) (L := m.lp) fun j hj => HG.out j (by omega))
                          have HH4 : Hid (okM m = (risesB m.lp.length m.dr && parsB m.lp.length (allM m))) := Lib.hid (by rw [HH3.out, HC.out]; rfl)
                          obtain ⟨w6, hw6⟩ : ∃ x, x = wr := ⟨_, rfl⟩
                          subst hw6
                          clear HG HH3 HC HB5 HB
                          have hz7 := HB6.out.size
                          go_wp2_with fail
                          go_loopw [104] (fun i wr => ∃ k : Nat, k ≤ m.dr.length ∧ i = .int .i64 k ∧ strB m.dr k ∧ ∃ n, wr = w6.drewN n) (fun i _ => m.dr.length - (intOf i).toNat)
                          case atStart => exact ⟨0, Nat.zero_le _, rfl, strB_zero _, 0, rfl⟩
                          case round =>
                            obtain ⟨k, hk, rfl, hgood, n, rfl⟩ := hrel
                            have HG := Lib.hid hgood
                            clear hgood
                            by_cases hlt : k < m.dr.length
                            · obtain ⟨A9, c9, e9, -, -, -, hcell⟩ := id G.out.dr
                              simp only [Value.slice.injEq] at e9
                              obtain ⟨rfl, -, rfl⟩ := e9
                              obtain ⟨b1, off, rfl, hbB, hcc⟩ := hcell (by omega)
                              have r1 := hcc k hlt
                              have HNO : Hid (0 < k → gi m.dr k ≤ gi m.dr (k - 1) → okM m = false) := Lib.hid fun h0 hx => by rw [HH4.out, rises_out hlt h0 hx]; rfl
                              have HNX : Hid ((0 < k → gi m.dr (k - 1) < gi m.dr k) → strB m.dr (k + 1)) := Lib.hid fun hx => strB_step HG.out hx
                              by_cases h0 : 0 < k
                              · obtain ⟨j, rfl⟩ : ∃ j, k = j + 1 := ⟨k - 1, by omega⟩
                                have r2 := hcc j (by omega)
                                rw [Nat.add_sub_cancel] at HNO HNX
                                clear hcell hcc
                                have h0I : (0 : Int) < ((j + 1 : Nat) : Int) := by omega
                                generalize gi m.dr (j + 1) = x at *
                                generalize gi m.dr j = y at *
                                by_cases hle : x ≤ y
                                · have HT := Lib.hid (HNO.out h0 hle)
                                  go_wp2_with fail
                                  go_quiet (fail)
                                  go_wp2
                                  go_ret
                                  exact ⟨ret_bool HT.out.symm, below_drewN (below_drewN HB6.out _) _⟩
                                · have HX := Lib.hid (HNX.out fun _ => by omega)
                                  go_wp2_with fail
                                  go_quiet (fail)
                                  go_wp2
                                  go_roundw
                                  case rel => exact ⟨j + 1 + 1, by omega, by go_num, HX.out, _, rfl⟩
                                  case measure => simp [intOf]; omega
                              · obtain rfl : k = 0 := by omega
                                clear hcell hcc
                                have HX := Lib.hid (HNX.out fun h => absurd h (by omega))
                                clear h0
                                go_wp2_with fail
                                go_quiet (fail)
                                go_wp2
                                go_roundw
                                case rel => exact ⟨0 + 1, by omega, by go_num, HX.out, _, rfl⟩
                                case measure => simp [intOf]; omega
                            · obtain rfl : k = m.dr.length := by omega
                              have HT : Hid (okM m = parsB m.lp.length (allM m)) := Lib.hid (by rw [HH4.out]; exact rises_pars HG.out)
                              have hx6 : (w6.drewN n).heap[w.heap.size]? = _ := X5.out
                              have X6 := Lib.hid hx6
                              have G6 := Lib.hid (H.out.below (below_drewN HB6.out n) hB)
                              have HB8 := Lib.hid (below_drewN HB6.out n)
                              have hz8 : w.heap.size ≤ (w6.drewN n).heap.size := HB8.out.size
                              clear hx6 p0 p1 p2 p3 p4 p5 p6 G
                              go_wp2_with (go_at_call 76; (refine (areApart_any G6.out (Nat.le_trans hB hz8) X6.out hfb hlp).mono ?_); rintro e w7 ⟨rfl, hb7⟩; have HB7 := Lib.hid hb7; clear hb7)
                              go_ret
                              exact ⟨ret_bool HT.out.symm, HB8.out.trans (HB7.out.mono hz8)⟩
            · have HT : Hid (okM m = false) := Lib.hid (by simp [okM, hdB, n6])
              have t6 : (300 : Int) < (m.lp.length : Int) := by omega
              clear n6
              go_enter Try.func22, Try.ntmps22
              go_wp2_with (first | (go_at_call 46; refine (is_same h1 (within_any m.wd 1 24 _)).mono ?_; rintro e w' ⟨rfl, rfl⟩) | (go_at_call 73; refine (is_same h2 (isRack_any _ _)).mono ?_; rintro e w' ⟨rfl, rfl⟩))
              go_ret
              exact ⟨ret_bool HT.out.symm, al1 _ _⟩
          · have HT : Hid (okM m = false) := Lib.hid (by simp [okM, hdB, n5])
            have t5 : ((m.cr.length : Int) != 4) = true := by simp; omega
            clear n5
            go_enter Try.func22, Try.ntmps22
            go_wp2_with (first | (go_at_call 46; refine (is_same h1 (within_any m.wd 1 24 _)).mono ?_; rintro e w' ⟨rfl, rfl⟩) | (go_at_call 73; refine (is_same h2 (isRack_any _ _)).mono ?_; rintro e w' ⟨rfl, rfl⟩))
            go_ret
            exact ⟨ret_bool HT.out.symm, al1 _ _⟩
        · have HT : Hid (okM m = false) := Lib.hid (by simp [okM, hdB, n4])
          have t4 : ((m.bk.length : Int) != m.wd) = true := by simp [n4]
          clear n4
          go_enter Try.func22, Try.ntmps22
          go_wp2_with (first | (go_at_call 46; refine (is_same h1 (within_any m.wd 1 24 _)).mono ?_; rintro e w' ⟨rfl, rfl⟩) | (go_at_call 73; refine (is_same h2 (isRack_any _ _)).mono ?_; rintro e w' ⟨rfl, rfl⟩))
          go_ret
          exact ⟨ret_bool HT.out.symm, al1 _ _⟩
      · have HT : Hid (okM m = false) := Lib.hid (by simp [okM, hdB, n3])
        have t3 : ((m.fr.length : Int) != m.wd) = true := by simp [n3]
        clear n3
        go_enter Try.func22, Try.ntmps22
        go_wp2_with (first | (go_at_call 46; refine (is_same h1 (within_any m.wd 1 24 _)).mono ?_; rintro e w' ⟨rfl, rfl⟩) | (go_at_call 73; refine (is_same h2 (isRack_any _ _)).mono ?_; rintro e w' ⟨rfl, rfl⟩))
        go_ret
        exact ⟨ret_bool HT.out.symm, al1 _ _⟩
end Go.Proofs.Ytbefioljddhhpaa
