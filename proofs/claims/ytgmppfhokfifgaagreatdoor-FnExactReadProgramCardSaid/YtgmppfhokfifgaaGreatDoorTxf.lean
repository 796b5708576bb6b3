/-
  Contracts: the program's ReadOp. Printed by gen_txf.py.
-/
import Derived.Test.YtgmppfhokfifgaaGreatDoorTxe
namespace Go.Proofs.YtgmppfhokfifgaaGreatDoor
set_option maxRecDepth 10000
open Go.RowKit Go.Sort
set_option linter.unusedSimpArgs false

theorem mem_size {c : UInt8} {s : ByteArray} {ws : List ByteArray} (h : IsSp c s.data.toList (bl_ ws)) {x : ByteArray} (hx : x ∈ ws) : x.size ≤ s.size := by
  obtain ⟨k, hk, rfl⟩ := List.mem_iff_getElem.1 hx
  rw [← gs_eq hk]
  exact gs_size h hk
set_option maxRecDepth 100000 in
set_option maxHeartbeats 6400000 in
theorem impl_ReadOp_any (s : ByteArray) {w : World} (hs : s.size ≤ 1048576) (hd : Dw w) (hw : Sw w) :
    Calls Tryz.prog 15 #[.string s] w fun e w' => ∃ a0 a1 a2 a3 a4 a5 a6 a7 b, e = .returned (.tuple #[.agg #[.int .i64 a0, .int .i64 a1, .int .i64 a2, .int .i64 a3, .int .i64 a4, .int .i64 a5, .int .i64 a6, .int .i64 a7], .bool b]) ∧ RdRT s [a0, a1, a2, a3, a4, a5, a6, a7] b ∧ Below w.heap.size w w' := by
  have HB0 := Lib.hid (al1 w (.cells #[.int .i64 0, .int .i64 0, .int .i64 0, .int .i64 0, .int .i64 0, .int .i64 0, .int .i64 0, .int .i64 0] 38))
  have HX0 := Lib.hid (alloc_at_ w (.cells #[.int .i64 0, .int .i64 0, .int .i64 0, .int .i64 0, .int .i64 0, .int .i64 0, .int .i64 0, .int .i64 0] 38))
  have HD := Lib.hid hd
  have HW := Lib.hid (hw.below (al1 w (.cells #[.int .i64 0, .int .i64 0, .int .i64 0, .int .i64 0, .int .i64 0, .int .i64 0, .int .i64 0, .int .i64 0] 38)))
  clear hd hw
  go_enter Tryz.func15, Tryz.ntmps15
  go_wp2_with fail
  refine (SplitWords_any s hs HW.out).mono ?_
  rintro e w1 ⟨v, ps, rfl, hsp, hlen, hv, hq⟩
  have HSP := Lib.hid hsp
  have HB1 := Lib.hid (HB0.out.trans (hq.mono (by simp)))
  have HX1 := Lib.hid (keep_fwd hq HX0.out)
  obtain ⟨us, hus⟩ : ∃ us, us = ps.filter keepW := ⟨_, rfl⟩
  rw [← hus] at hv
  have HUS := Lib.hid hus
  have hul : us.length ≤ 1048577 := by
    have := List.length_filter_le keepW ps
    rw [← hus] at this
    omega
  have HGS : Hid (∀ k, k < us.length → (gs us k).size ≤ 1048576) := Lib.hid fun k hk => by
    have h1 := gs_mem hk
    rw [HUS.out] at h1
    have h2 := mem_size HSP.out (List.mem_filter.1 h1).1
    rw [← HUS.out] at h2
    omega
  have HV := Lib.hid hv
  obtain ⟨g, off, c, hve, hg, hlc, hcm, -⟩ := hv
  subst hve
  obtain ⟨⟨z0, z1, z2, z3, z4, z5, z6, z7⟩, ⟨zf0, zf1, zf2, zf3, zf4, zf5, zf6, zf7⟩, zl⟩ := bx8f HX1.out
  clear hsp hq hus HX0 HB0
  by_cases h0 : us.length = 0
  · have h0I : ((us.length : Nat) : Int) = 0 := by omega
    have HRD := Lib.hid (rd_imp0 HSP.out (by rw [← HUS.out]; exact .inl h0))
    obtain ⟨hz, -, hzb⟩ := bx8_set (.int .i64 0) (.int .i64 0) (.int .i64 0) (.int .i64 0) (.int .i64 0) (.int .i64 0) (.int .i64 0) (.int .i64 0) (HX1.out)
    have HNN := Lib.hid (box8T hz).1
    have HZB := Lib.hid (hzb w.heap.size (Nat.le_refl _))
    have HBF := Lib.hid (HB1.out)
    clear hz hzb
    go_wp2_with fail
    obtain ⟨n0, n1, n2, n3, n4, n5, n6, n7⟩ := HNN.out
    refine bodyPost_ret (v := .tuple #[.agg #[.int .i64 0, .int .i64 0, .int .i64 0, .int .i64 0, .int .i64 0, .int .i64 0, .int .i64 0, .int .i64 0], .bool false]) (by simp [results, Tryz.results15, go_sem, n0, n1, n2, n3, n4, n5, n6, n7]) rfl ?_
    exact ⟨0, 0, 0, 0, 0, 0, 0, 0, false, rfl, HRD.out, HBF.out.trans HZB.out⟩
  · by_cases h5 : 5 < us.length
    · have h0I : ¬ (((us.length : Nat) : Int) = 0) := by omega
      have h5I : (5 : Int) < (us.length : Int) := by omega
      have HRD := Lib.hid (rd_imp0 HSP.out (by rw [← HUS.out]; exact .inr h5))
      obtain ⟨hz, -, hzb⟩ := bx8_set (.int .i64 0) (.int .i64 0) (.int .i64 0) (.int .i64 0) (.int .i64 0) (.int .i64 0) (.int .i64 0) (.int .i64 0) (HX1.out)
      have HNN := Lib.hid (box8T hz).1
      have HZB := Lib.hid (hzb w.heap.size (Nat.le_refl _))
      have HBF := Lib.hid (HB1.out)
      clear hz hzb
      go_wp2_with fail
      obtain ⟨n0, n1, n2, n3, n4, n5, n6, n7⟩ := HNN.out
      refine bodyPost_ret (v := .tuple #[.agg #[.int .i64 0, .int .i64 0, .int .i64 0, .int .i64 0, .int .i64 0, .int .i64 0, .int .i64 0, .int .i64 0], .bool false]) (by simp [results, Tryz.results15, go_sem, n0, n1, n2, n3, n4, n5, n6, n7]) rfl ?_
      exact ⟨0, 0, 0, 0, 0, 0, 0, 0, false, rfl, HRD.out, HBF.out.trans HZB.out⟩
    · have h0I : ¬ (((us.length : Nat) : Int) = 0) := by omega
      have h5I : ¬ ((5 : Int) < (us.length : Int)) := by omega
      have HD1 := Lib.hid (HD.out.below HB1.out)
      clear z0 z1 z2 z3 z4 z5 z6 z7 zf0 zf1 zf2 zf3 zf4 zf5 zf6 zf7 zl
      go_wp2_with fail
      refine (opOf_any HV.out (by omega) (by omega) HGS.out HD1.out).mono ?_
      rintro e w2 ⟨n, a0, a1, a2, a3, a4, a5, a6, a7, rfl, hk, ho, hq⟩
      have HRD := Lib.hid (rd_imp HUS.out hk HSP.out ho rfl)
      have hb2 : Below w.heap.size w (w2.alloc (.cells #[.int .i64 a0, .int .i64 a1, .int .i64 a2, .int .i64 a3, .int .i64 a4, .int .i64 a5, .int .i64 a6, .int .i64 a7] 38)) := HB1.out.trans ((hq.mono HB1.out.size).trans ((al1 w2 _).mono (Nat.le_trans HB1.out.size hq.size)))
      have hx2 := keep_fwd (al1 w2 (.cells #[.int .i64 a0, .int .i64 a1, .int .i64 a2, .int .i64 a3, .int .i64 a4, .int .i64 a5, .int .i64 a6, .int .i64 a7] 38)) (keep_fwd hq HX1.out)
      have hy2 := alloc_at_ w2 (.cells #[.int .i64 a0, .int .i64 a1, .int .i64 a2, .int .i64 a3, .int .i64 a4, .int .i64 a5, .int .i64 a6, .int .i64 a7] 38)
      have HB2 := Lib.hid hb2
      have HX2 := Lib.hid hx2
      have HY2 := Lib.hid hy2
      have HVA := Lib.hid (fun W : World => impl_ValidOp_any a0 a1 a2 a3 a4 a5 a6 a7 W)
      have HT := Lib.hid HD.out.tab
      clear hk ho hq hb2 hx2 hy2 HV HGS HD1
      cases hvo : vOp a0 a1 a2 a3 a4 a5 a6 a7
      · rw [hvo] at HVA
        have HRD2 := Lib.hid (HRD.out.2 (.inl hvo))
        clear hvo HRD
        go_wp2_with fail
        refine (HVA.out _).mono ?_
        rintro e w3 ⟨rfl, hq⟩
        have HB3 := Lib.hid (HB2.out.trans (hq.mono HB2.out.size))
        have HX3 := Lib.hid (keep_fwd hq HX2.out)
        obtain ⟨⟨z0, z1, z2, z3, z4, z5, z6, z7⟩, ⟨zf0, zf1, zf2, zf3, zf4, zf5, zf6, zf7⟩, zl⟩ := bx8f (HX3.out)
        clear hq
        obtain ⟨hz, -, hzb⟩ := bx8_set (.int .i64 0) (.int .i64 0) (.int .i64 0) (.int .i64 0) (.int .i64 0) (.int .i64 0) (.int .i64 0) (.int .i64 0) (HX3.out)
        have HNN := Lib.hid (box8T hz).1
        have HZB := Lib.hid (hzb w.heap.size (Nat.le_refl _))
        have HBF := Lib.hid (HB3.out)
        clear hz hzb
        go_wp2_with fail
        obtain ⟨n0, n1, n2, n3, n4, n5, n6, n7⟩ := HNN.out
        refine bodyPost_ret (v := .tuple #[.agg #[.int .i64 0, .int .i64 0, .int .i64 0, .int .i64 0, .int .i64 0, .int .i64 0, .int .i64 0, .int .i64 0], .bool false]) (by simp [results, Tryz.results15, go_sem, n0, n1, n2, n3, n4, n5, n6, n7]) rfl ?_
        exact ⟨0, 0, 0, 0, 0, 0, 0, 0, false, rfl, HRD2.out, HBF.out.trans HZB.out⟩
      · by_cases hst : opTx a0 a1 a2 a3 a4 a5 a6 a7 = s
        · have HRD2 := Lib.hid (HRD.out.1 ⟨hvo, hst⟩)
          have hcmp := str_yes hst
          have HOT := Lib.hid (fun (W : World) (hW : Tab W) => opText_any hvo hW)
          rw [hvo] at HVA
          clear hvo hst HRD
          go_wp2_with fail
          refine (HVA.out _).mono ?_
          rintro e w3 ⟨rfl, hq⟩
          have HB3 := Lib.hid (HB2.out.trans (hq.mono HB2.out.size))
          have HX3 := Lib.hid (keep_fwd hq HX2.out)
          have HY3 := Lib.hid (keep_fwd hq HY2.out)
          obtain ⟨⟨y0, y1, y2, y3, y4, y5, y6, y7⟩, ⟨yf0, yf1, yf2, yf3, yf4, yf5, yf6, yf7⟩, yl⟩ := bx8f (HY3.out)
          clear hq
          go_wp2_with fail
          clear y0 y1 y2 y3 y4 y5 y6 y7 yf0 yf1 yf2 yf3 yf4 yf5 yf6 yf7 yl
          refine (HOT.out _ (HT.out.below HB3.out)).mono ?_
          rintro e w4 ⟨rfl, hq⟩
          have HB4 := Lib.hid (HB3.out.trans (hq.mono HB3.out.size))
          have HX4 := Lib.hid (keep_fwd hq HX3.out)
          obtain ⟨⟨z0, z1, z2, z3, z4, z5, z6, z7⟩, ⟨zf0, zf1, zf2, zf3, zf4, zf5, zf6, zf7⟩, zl⟩ := bx8f (HX4.out)
          obtain ⟨⟨y0, y1, y2, y3, y4, y5, y6, y7⟩, ⟨yf0, yf1, yf2, yf3, yf4, yf5, yf6, yf7⟩, yl⟩ := bx8f (keep_fwd hq HY3.out)
          clear hq
          obtain ⟨hz, -, hzb⟩ := bx8_set (.int .i64 a0) (.int .i64 a1) (.int .i64 a2) (.int .i64 a3) (.int .i64 a4) (.int .i64 a5) (.int .i64 a6) (.int .i64 a7) (HX4.out)
          have HNN := Lib.hid (box8T hz).1
          have HZB := Lib.hid (hzb w.heap.size (Nat.le_refl _))
          have HBF := Lib.hid (HB4.out)
          clear hz hzb
          go_wp2_with fail
          obtain ⟨n0, n1, n2, n3, n4, n5, n6, n7⟩ := HNN.out
          refine bodyPost_ret (v := .tuple #[.agg #[.int .i64 a0, .int .i64 a1, .int .i64 a2, .int .i64 a3, .int .i64 a4, .int .i64 a5, .int .i64 a6, .int .i64 a7], .bool true]) (by simp [results, Tryz.results15, go_sem, n0, n1, n2, n3, n4, n5, n6, n7]) rfl ?_
          exact ⟨a0, a1, a2, a3, a4, a5, a6, a7, true, rfl, HRD2.out, HBF.out.trans HZB.out⟩
        · have HRD2 := Lib.hid (HRD.out.2 (.inr hst))
          have hcmp := str_no hst
          have HOT := Lib.hid (fun (W : World) (hW : Tab W) => opText_any hvo hW)
          rw [hvo] at HVA
          clear hvo hst HRD
          go_wp2_with fail
          refine (HVA.out _).mono ?_
          rintro e w3 ⟨rfl, hq⟩
          have HB3 := Lib.hid (HB2.out.trans (hq.mono HB2.out.size))
          have HX3 := Lib.hid (keep_fwd hq HX2.out)
          have HY3 := Lib.hid (keep_fwd hq HY2.out)
          obtain ⟨⟨y0, y1, y2, y3, y4, y5, y6, y7⟩, ⟨yf0, yf1, yf2, yf3, yf4, yf5, yf6, yf7⟩, yl⟩ := bx8f (HY3.out)
          clear hq
          go_wp2_with fail
          clear y0 y1 y2 y3 y4 y5 y6 y7 yf0 yf1 yf2 yf3 yf4 yf5 yf6 yf7 yl
          refine (HOT.out _ (HT.out.below HB3.out)).mono ?_
          rintro e w4 ⟨rfl, hq⟩
          have HB4 := Lib.hid (HB3.out.trans (hq.mono HB3.out.size))
          have HX4 := Lib.hid (keep_fwd hq HX3.out)
          obtain ⟨⟨z0, z1, z2, z3, z4, z5, z6, z7⟩, ⟨zf0, zf1, zf2, zf3, zf4, zf5, zf6, zf7⟩, zl⟩ := bx8f (HX4.out)
          clear hq
          obtain ⟨hz, -, hzb⟩ := bx8_set (.int .i64 0) (.int .i64 0) (.int .i64 0) (.int .i64 0) (.int .i64 0) (.int .i64 0) (.int .i64 0) (.int .i64 0) (HX4.out)
          have HNN := Lib.hid (box8T hz).1
          have HZB := Lib.hid (hzb w.heap.size (Nat.le_refl _))
          have HBF := Lib.hid (HB4.out)
          clear hz hzb
          go_wp2_with fail
          obtain ⟨n0, n1, n2, n3, n4, n5, n6, n7⟩ := HNN.out
          refine bodyPost_ret (v := .tuple #[.agg #[.int .i64 0, .int .i64 0, .int .i64 0, .int .i64 0, .int .i64 0, .int .i64 0, .int .i64 0, .int .i64 0], .bool false]) (by simp [results, Tryz.results15, go_sem, n0, n1, n2, n3, n4, n5, n6, n7]) rfl ?_
          exact ⟨0, 0, 0, 0, 0, 0, 0, 0, false, rfl, HRD2.out, HBF.out.trans HZB.out⟩
end Go.Proofs.YtgmppfhokfifgaaGreatDoor
