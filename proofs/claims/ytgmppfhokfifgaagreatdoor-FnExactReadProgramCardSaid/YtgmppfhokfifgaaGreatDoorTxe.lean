/-
  Contracts: the program's opOf. Printed by gen_txe.py.
-/
import Derived.Test.YtgmppfhokfifgaaGreatDoorTxc
namespace Go.Proofs.YtgmppfhokfifgaaGreatDoor
set_option maxRecDepth 10000
open Go.RowKit Go.Sort
set_option linter.unusedSimpArgs false

set_option maxRecDepth 100000 in
set_option maxHeartbeats 12800000 in
theorem opOf_any {w : World} {v : Value} {us : List ByteArray} (hv : SlW w w.heap.size v us) (h0 : 0 < us.length) (h5 : us.length ≤ 5) (hs : ∀ k, k < us.length → (gs us k).size ≤ 1048576) (hd : Dw w) :
    Calls Tryz.prog 34 #[v] w fun e w' => ∃ (n : Nat) (a0 a1 a2 a3 a4 a5 a6 a7 : Int), e = .returned (.agg #[.int .i64 a0, .int .i64 a1, .int .i64 a2, .int .i64 a3, .int .i64 a4, .int .i64 a5, .int .i64 a6, .int .i64 a7]) ∧ KindR (gs us 0) n ∧ impO n (us.drop 1) = [a0, a1, a2, a3, a4, a5, a6, a7] ∧ Below w.heap.size w w' := by
  obtain ⟨g, off, c, rfl, hg, hlc, hcm, hcl⟩ := hv
  obtain ⟨x, hx⟩ : ∃ x, x = gs us 0 := ⟨_, rfl⟩
  obtain ⟨n, hn9, hk, hmax⟩ := kind_idx x
  have HK := Lib.hid hk
  have HX := Lib.hid hx
  have HD := Lib.hid hd
  have HS := Lib.hid hs
  have h0I : (0 : Int) < (us.length : Int) := by omega
  obtain ⟨w1, hw1⟩ : ∃ w1, w1 = w.alloc (.cells #[.int .i64 0, .int .i64 0, .int .i64 0, .int .i64 0, .int .i64 0, .int .i64 0, .int .i64 0, .int .i64 0] 38) := ⟨_, rfl⟩
  have ha : Below w.heap.size w w1 := by rw [hw1]; exact al1 _ _
  have hsz1 : w1.heap.size = w.heap.size + 1 := by rw [hw1]; simp
  have HA := Lib.hid ha
  have HR0 : Hid (w1.heap[w.heap.size]? = some (.cells #[.int .i64 0, .int .i64 0, .int .i64 0, .int .i64 0, .int .i64 0, .int .i64 0, .int .i64 0, .int .i64 0] 38)) := Lib.hid (by rw [hw1]; exact alloc_at_ _ _)
  have hg1 : g < w1.heap.size := by omega
  have HCL : Hid (∀ k, k < us.length → w1.cell? ⟨g, off + k, none⟩ = some (.string (gs us k))) := Lib.hid fun k hk => by rw [ha.cell hg]; exact hcl k hk
  have hc0 : w1.cell? ⟨g, off, none⟩ = some (.string x) := by rw [hx]; exact HCL.out 0 h0
  have HKP := Lib.hid (fun w' (hw : Below w1.heap.size w1 w') => show w'.cell? ⟨g, off, none⟩ = some (.string x) ∧ Below w1.heap.size w1 w' from ⟨(hw.cell hg1).trans hc0, hw⟩)
  obtain ⟨ix, hix⟩ : ∃ ix, ix = Lib.idxOfS kwL x := ⟨_, rfl⟩
  rw [← hix] at hmax
  have HZ1 := Lib.hid hsz1
  have HIX : Hid (∀ (b : Nat) (W : World), (∀ j, j < 10 → W.cell? ⟨b, j, none⟩ = some (.string (kw j))) → Calls Tryz.prog 58 #[.slice (some ⟨b, 0, none⟩) 10 10, .string x] W fun e w' => e = .returned (.int .i64 ix) ∧ w' = W) := Lib.hid fun b W hW => by
    rw [hix]
    have := Tryz.slices_Index_string b 0 10 10 kwL x W (by decide) (by decide) (fun j hj => by rw [Nat.zero_add]; exact hW j hj)
    exact this
  clear hk hx hd hcl hc0 ha hs hix hsz1
  go_enter Tryz.func34, Tryz.ntmps34
  go_upto_region 1 with fail
  rw [← hw1]
  clear hw1
  go_cut [3] (fun s3 wx => ∃ bo : Nat, s3 = .pointer (some ⟨bo, 0, none⟩) ∧ w1.heap.size ≤ bo ∧ wx.heap[bo]? = some (.cells #[.int .i64 ((n : Int)), .int .i64 0, .int .i64 0, .int .i64 0, .int .i64 0, .int .i64 0, .int .i64 0, .int .i64 0] 38) ∧ Below w1.heap.size w1 wx)
  case first =>
    go_region_held3 (fun w' => w'.cell? ⟨g, off, none⟩ = some (.string x) ∧ Below w1.heap.size w1 w') (exact HKP.out _ (by first | with_reducible assumption | with_reducible exact Below.refl _ _ | with_reducible exact below_drewN (Below.refl _ _) _ | with_reducible exact (Below.refl _ _).drew | go_grown))
      (first
        | (go_at_call 52; (refine (opWords_any _).mono ?_); rintro e w5 ⟨gw, rfl, hgw, hq⟩; have hr5 : Below w1.heap.size w1 w5 := Below.trans (by first | assumption | go_grown) (hq.mono (Below.size (w := w1) (B := w1.heap.size) (by first | assumption | go_grown))); have hz5 := hr5.size; (first | (have dz : w5.heap[w1.heap.size]? = some (.cells #[.int .i64 0, .int .i64 0, .int .i64 0, .int .i64 0, .int .i64 0, .int .i64 0, .int .i64 0, .int .i64 0] 38) := (by first | exact alloc_fwd hq | exact alloc_fwd_drew hq | exact alloc_fwd_drewN hq); have HDZ := Lib.hid dz; obtain ⟨⟨z0, z1, z2, z3, z4, z5, z6, z7⟩, ⟨zf0, zf1, zf2, zf3, zf4, zf5, zf6, zf7⟩, zl⟩ := bx8f dz; clear dz) | skip); have HGW := Lib.hid (fun (W : World) (hW : Below w5.heap.size w5 W) (j : Nat) (hj : j < 10) => ((hW.cell (block_lt_of_cell (hgw j hj))).trans (hgw j hj))); clear hgw hq)
        | (go_at_call 58; (refine (HIX.out _ _ (HGW.out _ (by first | with_reducible exact Below.refl _ _ | go_grown))).mono ?_); rintro e w6 ⟨rfl, rfl⟩))
    all_goals
      go_wp2_with fail
      go_meet
      first
        | exact ⟨_, rfl, hz5, alloc_at_ _ _, hr5.trans ((al1 _ _).mono hz5)⟩
        | exact ⟨_, rfl, Nat.le_refl _, (bx8_set _ _ _ _ _ _ _ _ HDZ.out).1, hr5.trans ((bx8_set _ _ _ _ _ _ _ _ HDZ.out).2.2 _ (Nat.le_refl _))⟩
  case rest =>
  obtain ⟨bo, rfl, hbo, hxb, hb2⟩ := hcut
  obtain ⟨w2, hw2⟩ : ∃ x, x = wc := ⟨_, rfl⟩
  subst hw2
  have HXB := Lib.hid hxb
  have HB2 := Lib.hid hb2
  have hg2 : g < w2.heap.size := Nat.lt_of_lt_of_le hg1 hb2.size
  clear hxb hb2 HKP HIX
  go_upto_region 2 with fail
  go_cut [18, 19, 20] (fun s18 s19 s20 wx => ∃ o2 c2, s18 = .slice (some ⟨g, o2, none⟩) (us.length - 1) c2 ∧ s19 = .int .i64 ((us.length - 1 : Nat) : Int) ∧ s20 = .int .i64 0 ∧ us.length - 1 ≤ c2 ∧ (0 < us.length - 1 → o2 = off + 1) ∧ wx = w2)
  case first =>
    by_cases hc1 : c = 1
    · go_wp2_with fail
      go_meet
      exact ⟨_, _, rfl, rfl, rfl, by omega, fun q => by omega, rfl⟩
    · go_wp2_with fail
      go_meet
      exact ⟨_, _, rfl, rfl, rfl, by omega, fun _ => rfl, rfl⟩
  case rest =>
  obtain ⟨o2, c2, rfl, rfl, rfl, hc2, ho2, hw⟩ := hcut
  subst hw
  obtain ⟨nr, hnr⟩ : ∃ x, x = us.length - 1 := ⟨_, rfl⟩
  obtain ⟨rs, hrs⟩ : ∃ rs, rs = us.drop 1 := ⟨_, rfl⟩
  have hrl : rs.length = nr := by rw [hrs, List.length_drop, hnr]
  have HRS : Hid (∀ k, k < nr → w1.cell? ⟨g, off + 1 + k, none⟩ = some (.string (gs rs k)) ∧ (gs rs k).size ≤ 1048576) := Lib.hid fun k hk => by
    rw [hrs, gs_drop, Nat.add_assoc]
    exact ⟨HCL.out _ (by omega), HS.out _ (by omega)⟩
  have HRD := Lib.hid hrs
  have hn5 : nr ≤ 5 := by omega
  clear HCL HS hrs
  rw [← hnr] at hc2 ho2
  rw [show us.length - 1 = nr from hnr.symm]
  have HRS2 : Hid (∀ k, k < nr → w1.cell? ⟨g, o2 + k, none⟩ = some (.string (gs rs k)) ∧ (gs rs k).size ≤ 1048576) := Lib.hid fun k hk => by
    rw [ho2 (by omega)]; exact HRS.out k hk
  have HX0_ : Hid (wc.heap[bo]? = some (.cells #[.int .i64 ((n : Int)), .int .i64 0, .int .i64 0, .int .i64 0, .int .i64 0, .int .i64 0, .int .i64 0, .int .i64 0] 38) ∧ Below w1.heap.size w1 wc) := Lib.hid ⟨HXB.out, HB2.out⟩
  clear hnr ho2 HRS HXB HB2
  go_wp2_with fail
  go_loopw [20] (fun i wr => ∃ (k : Nat) (a0 a1 a2 a3 a4 a5 a6 a7 : Int), k ≤ nr ∧ i = .int .i64 k ∧ Below w1.heap.size w1 wr ∧ wr.heap[bo]? = some (.cells #[.int .i64 a0, .int .i64 a1, .int .i64 a2, .int .i64 a3, .int .i64 a4, .int .i64 a5, .int .i64 a6, .int .i64 a7] 38) ∧ impUp rs (op0 n) k = [a0, a1, a2, a3, a4, a5, a6, a7]) (fun i _ => nr - (intOf i).toNat)
  case atStart => exact ⟨0, _, _, _, _, _, _, _, _, Nat.zero_le _, rfl, HX0_.out.2, HX0_.out.1, rfl⟩
  case round =>
    obtain ⟨k, a0, a1, a2, a3, a4, a5, a6, a7, hk, rfl, hb, hx, hu⟩ := hrel
    have HB := Lib.hid hb
    have HX2 := Lib.hid hx
    have HU := Lib.hid hu
    clear hb hx hu HX0_
    by_cases hlt : k < nr
    · have hltI : (k : Int) < (nr : Int) := by omega
      obtain ⟨hc0, hsz⟩ := HRS2.out k hlt
      obtain ⟨y, hy⟩ : ∃ y, y = gs rs k := ⟨_, rfl⟩
      rw [← hy] at hc0 hsz
      have HGY := Lib.hid hy
      have q0 : wr.cell? ⟨g, o2 + k, none⟩ = some (.string y) := (HB.out.cell hg1).trans hc0
      clear hy hc0
      obtain ⟨nb, na, nok, hN⟩ : ∃ b a ok, ndC y = (b, a, ok) := ⟨_, _, _, rfl⟩
      obtain ⟨m, mok, hM⟩ : ∃ a ok, numC y = (a, ok) := ⟨_, _, rfl⟩
      have HDW : Hid (∀ W : World, Below w1.heap.size w1 W → Dw W) := Lib.hid fun W hW => (HD.out.below HA.out).below hW
      have HRN := Lib.hid (fun (W : World) (hW : Dw W) => (show Calls Tryz.prog 59 #[.string y] W fun e w' => e = .returned (.tuple #[.agg #[.int .i64 nb, .int .i64 na], .bool nok]) ∧ Below W.heap.size W w' from by have := impl_ReadNeedle_any y hsz hW; rw [hN] at this; exact this))
      have HNU := Lib.hid (fun (W : World) (hW : Dw W) => (show Calls Tryz.prog 44 #[.string y] W fun e w' => e = .returned (.tuple #[.int .i64 m, .bool mok]) ∧ Below W.heap.size W w' from by have := ReadDecimal_any y hsz hW; rw [hM] at this; exact this))
      have HN := Lib.hid hN
      have HM := Lib.hid hM
      clear hN hM
      by_cases hgt : y = gtB
      · have HGT := Lib.hid hgt
        have hcA : y.toList = [62] := by rw [hgt]; exact gt_list
        have hcA2 : (y.toList == [62]) = true := by rw [hcA]; rfl
        clear hgt
        have HS : Hid (impStep y [a0, a1, a2, a3, a4, a5, a6, a7] = [a0, 1, a2, a3, a4, a5, a6, a7]) := Lib.hid (by unfold impStep; rw [if_pos HGT.out]; simp [setD, gi])
        go_wp2_with fail
        refine (HNU.out _ (HDW.out _ HB.out)).mono ?_
        rintro e w3 ⟨rfl, hq⟩
        have hb3 := HB.out.trans (hq.mono HB.out.size)
        have HB3 := Lib.hid hb3
        have HX3 := Lib.hid (keep_fwd hq HX2.out)
        clear hb3 hq
        go_wp2_with fail
        refine (HRN.out _ (HDW.out _ HB3.out)).mono ?_
        rintro e w4 ⟨rfl, hq⟩
        have hb4 : Below w1.heap.size w1 (w4.alloc (.cells #[.int .i64 nb, .int .i64 na] 36)) := HB3.out.trans ((hq.mono HB3.out.size).trans ((al1 w4 _).mono (Nat.le_trans HB3.out.size hq.size)))
        have hx4 := keep_fwd (al1 w4 (.cells #[.int .i64 nb, .int .i64 na] 36)) (keep_fwd hq HX3.out)
        have HB4 := Lib.hid hb4
        have HX4 := Lib.hid hx4
        obtain ⟨⟨x0, x1, x2, x3, x4, x5, x6, x7⟩, ⟨xf0, xf1, xf2, xf3, xf4, xf5, xf6, xf7⟩, xl⟩ := bx8f (keep_fwd hq HX3.out)
        have HB5 := Lib.hid (HB3.out.trans (hq.mono HB3.out.size))
        have HX5 := Lib.hid (keep_fwd hq HX3.out)
        clear hb4 hx4 hq q0
        go_wp2_with fail
        go_roundw
        case rel =>
          first
            | exact ⟨k + 1, _, _, _, _, _, _, _, _, by omega, by go_num, setBN (show w1.heap.size ≤ (⟨bo, 1, none⟩ : Addr).block from hbo) (HB4.out), heap_setCell_at (k := 1) (.int .i64 1) (HX4.out), by (show impStep (gs rs k) (impUp rs (op0 n) k) = _); rw [HU.out, ← HGY.out]; exact HS.out⟩
            | exact ⟨k + 1, _, _, _, _, _, _, _, _, by omega, by go_num, allocBN (setBN (show w1.heap.size ≤ (⟨bo, 1, none⟩ : Addr).block from hbo) (HB5.out)) (by have := HB5.out.size; simpa using this), keep_fwd (al1 _ _) (heap_setCell_at (k := 1) (.int .i64 1) (HX5.out)), by (show impStep (gs rs k) (impUp rs (op0 n) k) = _); rw [HU.out, ← HGY.out]; exact HS.out⟩
        case measure => simp [intOf]; omega
      · have hcA : ¬ (y.toList = [62]) := fun q => hgt (tl_inj (q.trans gt_list.symm))
        have hcA2 : (y.toList == [62]) = false := by rw [beq_eq_false_iff_ne]; exact hcA
        have HGT := Lib.hid hgt
        by_cases hlt2 : y = ltB
        · have HLT := Lib.hid hlt2
          have hcB : y.toList = [60] := by rw [hlt2]; exact lt_list
          have hcB2 : (y.toList == [60]) = true := by rw [hcB]; rfl
          clear hgt hlt2
          have HS : Hid (impStep y [a0, a1, a2, a3, a4, a5, a6, a7] = [a0, -1, a2, a3, a4, a5, a6, a7]) := Lib.hid (by unfold impStep; rw [if_neg HGT.out, if_pos HLT.out]; simp [setD, gi])
          go_wp2_with fail
          refine (HNU.out _ (HDW.out _ HB.out)).mono ?_
          rintro e w3 ⟨rfl, hq⟩
          have hb3 := HB.out.trans (hq.mono HB.out.size)
          have HB3 := Lib.hid hb3
          have HX3 := Lib.hid (keep_fwd hq HX2.out)
          clear hb3 hq
          go_wp2_with fail
          refine (HRN.out _ (HDW.out _ HB3.out)).mono ?_
          rintro e w4 ⟨rfl, hq⟩
          have hb4 : Below w1.heap.size w1 (w4.alloc (.cells #[.int .i64 nb, .int .i64 na] 36)) := HB3.out.trans ((hq.mono HB3.out.size).trans ((al1 w4 _).mono (Nat.le_trans HB3.out.size hq.size)))
          have hx4 := keep_fwd (al1 w4 (.cells #[.int .i64 nb, .int .i64 na] 36)) (keep_fwd hq HX3.out)
          have HB4 := Lib.hid hb4
          have HX4 := Lib.hid hx4
          obtain ⟨⟨x0, x1, x2, x3, x4, x5, x6, x7⟩, ⟨xf0, xf1, xf2, xf3, xf4, xf5, xf6, xf7⟩, xl⟩ := bx8f (keep_fwd hq HX3.out)
          have HB5 := Lib.hid (HB3.out.trans (hq.mono HB3.out.size))
          have HX5 := Lib.hid (keep_fwd hq HX3.out)
          clear hb4 hx4 hq q0
          go_wp2_with fail
          go_roundw
          case rel =>
            first
              | exact ⟨k + 1, _, _, _, _, _, _, _, _, by omega, by go_num, setBN (show w1.heap.size ≤ (⟨bo, 1, none⟩ : Addr).block from hbo) (HB4.out), heap_setCell_at (k := 1) (.int .i64 (-1)) (HX4.out), by (show impStep (gs rs k) (impUp rs (op0 n) k) = _); rw [HU.out, ← HGY.out]; exact HS.out⟩
              | exact ⟨k + 1, _, _, _, _, _, _, _, _, by omega, by go_num, allocBN (setBN (show w1.heap.size ≤ (⟨bo, 1, none⟩ : Addr).block from hbo) (HB5.out)) (by have := HB5.out.size; simpa using this), keep_fwd (al1 _ _) (heap_setCell_at (k := 1) (.int .i64 (-1)) (HX5.out)), by (show impStep (gs rs k) (impUp rs (op0 n) k) = _); rw [HU.out, ← HGY.out]; exact HS.out⟩
          case measure => simp [intOf]; omega
        · have HLT := Lib.hid hlt2
          have hcB : ¬ (y.toList = [60]) := fun q => hlt2 (tl_inj (q.trans lt_list.symm))
          have hcB2 : (y.toList == [60]) = false := by rw [beq_eq_false_iff_ne]; exact hcB
          clear hgt hlt2
          cases nok
          · cases mok
            · skip
              have HS : Hid (impStep y [a0, a1, a2, a3, a4, a5, a6, a7] = [a0, a1, a2, a3, a4, a5, a6, a7]) := Lib.hid (by unfold impStep; rw [if_neg HGT.out, if_neg HLT.out, HN.out, HM.out]; simp [setF, setT, setR, setK, gi])
              go_wp2_with fail
              refine (HNU.out _ (HDW.out _ HB.out)).mono ?_
              rintro e w3 ⟨rfl, hq⟩
              have hb3 := HB.out.trans (hq.mono HB.out.size)
              have HB3 := Lib.hid hb3
              have HX3 := Lib.hid (keep_fwd hq HX2.out)
              clear hb3 hq
              go_wp2_with fail
              refine (HRN.out _ (HDW.out _ HB3.out)).mono ?_
              rintro e w4 ⟨rfl, hq⟩
              have hb4 : Below w1.heap.size w1 (w4.alloc (.cells #[.int .i64 nb, .int .i64 na] 36)) := HB3.out.trans ((hq.mono HB3.out.size).trans ((al1 w4 _).mono (Nat.le_trans HB3.out.size hq.size)))
              have hx4 := keep_fwd (al1 w4 (.cells #[.int .i64 nb, .int .i64 na] 36)) (keep_fwd hq HX3.out)
              have HB4 := Lib.hid hb4
              have HX4 := Lib.hid hx4
              obtain ⟨⟨x0, x1, x2, x3, x4, x5, x6, x7⟩, ⟨xf0, xf1, xf2, xf3, xf4, xf5, xf6, xf7⟩, xl⟩ := bx8f (keep_fwd hq HX3.out)
              have HB5 := Lib.hid (HB3.out.trans (hq.mono HB3.out.size))
              have HX5 := Lib.hid (keep_fwd hq HX3.out)
              clear hb4 hx4 hq q0
              go_wp2_with fail
              go_roundw
              case rel =>
                first
                  | exact ⟨k + 1, _, _, _, _, _, _, _, _, by omega, by go_num, HB4.out, HX4.out, by (show impStep (gs rs k) (impUp rs (op0 n) k) = _); rw [HU.out, ← HGY.out]; exact HS.out⟩
                  | exact ⟨k + 1, _, _, _, _, _, _, _, _, by omega, by go_num, allocBN (HB5.out) (by have := HB5.out.size; simpa using this), keep_fwd (al1 _ _) (HX5.out), by (show impStep (gs rs k) (impUp rs (op0 n) k) = _); rw [HU.out, ← HGY.out]; exact HS.out⟩
              case measure => simp [intOf]; omega
            · by_cases h7 : a0 = 7
              · subst h7
                have HS : Hid (impStep y [7, a1, a2, a3, a4, a5, a6, a7] = [7, a1, a2, a3, a4, a5, a6, m]) := Lib.hid (by unfold impStep; rw [if_neg HGT.out, if_neg HLT.out, HN.out, HM.out]; simp [setF, setT, setR, setK, gi])
                go_wp2_with fail
                refine (HNU.out _ (HDW.out _ HB.out)).mono ?_
                rintro e w3 ⟨rfl, hq⟩
                have hb3 := HB.out.trans (hq.mono HB.out.size)
                have HB3 := Lib.hid hb3
                have HX3 := Lib.hid (keep_fwd hq HX2.out)
                clear hb3 hq
                go_wp2_with fail
                refine (HRN.out _ (HDW.out _ HB3.out)).mono ?_
                rintro e w4 ⟨rfl, hq⟩
                have hb4 : Below w1.heap.size w1 (w4.alloc (.cells #[.int .i64 nb, .int .i64 na] 36)) := HB3.out.trans ((hq.mono HB3.out.size).trans ((al1 w4 _).mono (Nat.le_trans HB3.out.size hq.size)))
                have hx4 := keep_fwd (al1 w4 (.cells #[.int .i64 nb, .int .i64 na] 36)) (keep_fwd hq HX3.out)
                have HB4 := Lib.hid hb4
                have HX4 := Lib.hid hx4
                obtain ⟨⟨x0, x1, x2, x3, x4, x5, x6, x7⟩, ⟨xf0, xf1, xf2, xf3, xf4, xf5, xf6, xf7⟩, xl⟩ := bx8f (keep_fwd hq HX3.out)
                have HB5 := Lib.hid (HB3.out.trans (hq.mono HB3.out.size))
                have HX5 := Lib.hid (keep_fwd hq HX3.out)
                clear hb4 hx4 hq q0
                go_wp2_with fail
                go_roundw
                case rel =>
                  first
                    | exact ⟨k + 1, _, _, _, _, _, _, _, _, by omega, by go_num, setBN (show w1.heap.size ≤ (⟨bo, 7, none⟩ : Addr).block from hbo) (HB4.out), heap_setCell_at (k := 7) (.int .i64 m) (HX4.out), by (show impStep (gs rs k) (impUp rs (op0 n) k) = _); rw [HU.out, ← HGY.out]; exact HS.out⟩
                    | exact ⟨k + 1, _, _, _, _, _, _, _, _, by omega, by go_num, allocBN (setBN (show w1.heap.size ≤ (⟨bo, 7, none⟩ : Addr).block from hbo) (HB5.out)) (by have := HB5.out.size; simpa using this), keep_fwd (al1 _ _) (heap_setCell_at (k := 7) (.int .i64 m) (HX5.out)), by (show impStep (gs rs k) (impUp rs (op0 n) k) = _); rw [HU.out, ← HGY.out]; exact HS.out⟩
                case measure => simp [intOf]; omega
              · skip
                have HS : Hid (impStep y [a0, a1, a2, a3, a4, a5, a6, a7] = [a0, a1, a2, a3, a4, a5, m, a7]) := Lib.hid (by unfold impStep; rw [if_neg HGT.out, if_neg HLT.out, HN.out, HM.out]; simp [setF, setT, setR, setK, gi, h7])
                go_wp2_with fail
                refine (HNU.out _ (HDW.out _ HB.out)).mono ?_
                rintro e w3 ⟨rfl, hq⟩
                have hb3 := HB.out.trans (hq.mono HB.out.size)
                have HB3 := Lib.hid hb3
                have HX3 := Lib.hid (keep_fwd hq HX2.out)
                clear hb3 hq
                go_wp2_with fail
                refine (HRN.out _ (HDW.out _ HB3.out)).mono ?_
                rintro e w4 ⟨rfl, hq⟩
                have hb4 : Below w1.heap.size w1 (w4.alloc (.cells #[.int .i64 nb, .int .i64 na] 36)) := HB3.out.trans ((hq.mono HB3.out.size).trans ((al1 w4 _).mono (Nat.le_trans HB3.out.size hq.size)))
                have hx4 := keep_fwd (al1 w4 (.cells #[.int .i64 nb, .int .i64 na] 36)) (keep_fwd hq HX3.out)
                have HB4 := Lib.hid hb4
                have HX4 := Lib.hid hx4
                obtain ⟨⟨x0, x1, x2, x3, x4, x5, x6, x7⟩, ⟨xf0, xf1, xf2, xf3, xf4, xf5, xf6, xf7⟩, xl⟩ := bx8f (keep_fwd hq HX3.out)
                have HB5 := Lib.hid (HB3.out.trans (hq.mono HB3.out.size))
                have HX5 := Lib.hid (keep_fwd hq HX3.out)
                clear hb4 hx4 hq q0
                go_wp2_with fail
                go_roundw
                case rel =>
                  first
                    | exact ⟨k + 1, _, _, _, _, _, _, _, _, by omega, by go_num, setBN (show w1.heap.size ≤ (⟨bo, 6, none⟩ : Addr).block from hbo) (HB4.out), heap_setCell_at (k := 6) (.int .i64 m) (HX4.out), by (show impStep (gs rs k) (impUp rs (op0 n) k) = _); rw [HU.out, ← HGY.out]; exact HS.out⟩
                    | exact ⟨k + 1, _, _, _, _, _, _, _, _, by omega, by go_num, allocBN (setBN (show w1.heap.size ≤ (⟨bo, 6, none⟩ : Addr).block from hbo) (HB5.out)) (by have := HB5.out.size; simpa using this), keep_fwd (al1 _ _) (heap_setCell_at (k := 6) (.int .i64 m) (HX5.out)), by (show impStep (gs rs k) (impUp rs (op0 n) k) = _); rw [HU.out, ← HGY.out]; exact HS.out⟩
                case measure => simp [intOf]; omega
          · by_cases hb0 : a2 = 0
            · subst hb0
              have HS : Hid (impStep y [a0, a1, 0, a3, a4, a5, a6, a7] = [a0, a1, nb, na, a4, a5, a6, a7]) := Lib.hid (by unfold impStep; rw [if_neg HGT.out, if_neg HLT.out, HN.out]; simp [setF, setT, setR, setK, gi])
              go_wp2_with fail
              refine (HNU.out _ (HDW.out _ HB.out)).mono ?_
              rintro e w3 ⟨rfl, hq⟩
              have hb3 := HB.out.trans (hq.mono HB.out.size)
              have HB3 := Lib.hid hb3
              have HX3 := Lib.hid (keep_fwd hq HX2.out)
              clear hb3 hq
              go_wp2_with fail
              refine (HRN.out _ (HDW.out _ HB3.out)).mono ?_
              rintro e w4 ⟨rfl, hq⟩
              have hb4 : Below w1.heap.size w1 (w4.alloc (.cells #[.int .i64 nb, .int .i64 na] 36)) := HB3.out.trans ((hq.mono HB3.out.size).trans ((al1 w4 _).mono (Nat.le_trans HB3.out.size hq.size)))
              have hx4 := keep_fwd (al1 w4 (.cells #[.int .i64 nb, .int .i64 na] 36)) (keep_fwd hq HX3.out)
              have HB4 := Lib.hid hb4
              have HX4 := Lib.hid hx4
              obtain ⟨⟨x0, x1, x2, x3, x4, x5, x6, x7⟩, ⟨xf0, xf1, xf2, xf3, xf4, xf5, xf6, xf7⟩, xl⟩ := bx8f (keep_fwd hq HX3.out)
              have HB5 := Lib.hid (HB3.out.trans (hq.mono HB3.out.size))
              have HX5 := Lib.hid (keep_fwd hq HX3.out)
              clear hb4 hx4 hq q0
              go_wp2_with fail
              go_roundw
              case rel =>
                first
                  | exact ⟨k + 1, _, _, _, _, _, _, _, _, by omega, by go_num, setBN (show w1.heap.size ≤ (⟨bo, 3, none⟩ : Addr).block from hbo) (setBN (show w1.heap.size ≤ (⟨bo, 2, none⟩ : Addr).block from hbo) (HB4.out)), heap_setCell_at (k := 3) (.int .i64 na) (heap_setCell_at (k := 2) (.int .i64 nb) (HX4.out)), by (show impStep (gs rs k) (impUp rs (op0 n) k) = _); rw [HU.out, ← HGY.out]; exact HS.out⟩
                  | exact ⟨k + 1, _, _, _, _, _, _, _, _, by omega, by go_num, allocBN (setBN (show w1.heap.size ≤ (⟨bo, 3, none⟩ : Addr).block from hbo) (setBN (show w1.heap.size ≤ (⟨bo, 2, none⟩ : Addr).block from hbo) (HB5.out))) (by have := HB5.out.size; simpa using this), keep_fwd (al1 _ _) (heap_setCell_at (k := 3) (.int .i64 na) (heap_setCell_at (k := 2) (.int .i64 nb) (HX5.out))), by (show impStep (gs rs k) (impUp rs (op0 n) k) = _); rw [HU.out, ← HGY.out]; exact HS.out⟩
              case measure => simp [intOf]; omega
            · skip
              have HS : Hid (impStep y [a0, a1, a2, a3, a4, a5, a6, a7] = [a0, a1, a2, a3, nb, na, a6, a7]) := Lib.hid (by unfold impStep; rw [if_neg HGT.out, if_neg HLT.out, HN.out]; simp [setF, setT, setR, setK, gi, hb0])
              go_wp2_with fail
              refine (HNU.out _ (HDW.out _ HB.out)).mono ?_
              rintro e w3 ⟨rfl, hq⟩
              have hb3 := HB.out.trans (hq.mono HB.out.size)
              have HB3 := Lib.hid hb3
              have HX3 := Lib.hid (keep_fwd hq HX2.out)
              clear hb3 hq
              go_wp2_with fail
              refine (HRN.out _ (HDW.out _ HB3.out)).mono ?_
              rintro e w4 ⟨rfl, hq⟩
              have hb4 : Below w1.heap.size w1 (w4.alloc (.cells #[.int .i64 nb, .int .i64 na] 36)) := HB3.out.trans ((hq.mono HB3.out.size).trans ((al1 w4 _).mono (Nat.le_trans HB3.out.size hq.size)))
              have hx4 := keep_fwd (al1 w4 (.cells #[.int .i64 nb, .int .i64 na] 36)) (keep_fwd hq HX3.out)
              have HB4 := Lib.hid hb4
              have HX4 := Lib.hid hx4
              obtain ⟨⟨x0, x1, x2, x3, x4, x5, x6, x7⟩, ⟨xf0, xf1, xf2, xf3, xf4, xf5, xf6, xf7⟩, xl⟩ := bx8f (keep_fwd hq HX3.out)
              have HB5 := Lib.hid (HB3.out.trans (hq.mono HB3.out.size))
              have HX5 := Lib.hid (keep_fwd hq HX3.out)
              clear hb4 hx4 hq q0
              go_wp2_with fail
              go_roundw
              case rel =>
                first
                  | exact ⟨k + 1, _, _, _, _, _, _, _, _, by omega, by go_num, setBN (show w1.heap.size ≤ (⟨bo, 5, none⟩ : Addr).block from hbo) (setBN (show w1.heap.size ≤ (⟨bo, 4, none⟩ : Addr).block from hbo) (HB4.out)), heap_setCell_at (k := 5) (.int .i64 na) (heap_setCell_at (k := 4) (.int .i64 nb) (HX4.out)), by (show impStep (gs rs k) (impUp rs (op0 n) k) = _); rw [HU.out, ← HGY.out]; exact HS.out⟩
                  | exact ⟨k + 1, _, _, _, _, _, _, _, _, by omega, by go_num, allocBN (setBN (show w1.heap.size ≤ (⟨bo, 5, none⟩ : Addr).block from hbo) (setBN (show w1.heap.size ≤ (⟨bo, 4, none⟩ : Addr).block from hbo) (HB5.out))) (by have := HB5.out.size; simpa using this), keep_fwd (al1 _ _) (heap_setCell_at (k := 5) (.int .i64 na) (heap_setCell_at (k := 4) (.int .i64 nb) (HX5.out))), by (show impStep (gs rs k) (impUp rs (op0 n) k) = _); rw [HU.out, ← HGY.out]; exact HS.out⟩
              case measure => simp [intOf]; omega
    · obtain rfl : k = nr := by omega
      have HI : Hid (impO n (us.drop 1) = [a0, a1, a2, a3, a4, a5, a6, a7]) := Lib.hid (by rw [← HRD.out]; unfold impO; rw [hrl]; exact HU.out)
      obtain ⟨⟨x0, x1, x2, x3, x4, x5, x6, x7⟩, ⟨xf0, xf1, xf2, xf3, xf4, xf5, xf6, xf7⟩, xl⟩ := bx8f HX2.out
      have hr1 : w.heap.size < w1.heap.size := heap_lt HR0.out
      have hz5 := (HB.out.block _ hr1).trans HR0.out
      obtain ⟨hz, -, hzb⟩ := bx8_set (.int .i64 a0) (.int .i64 a1) (.int .i64 a2) (.int .i64 a3) (.int .i64 a4) (.int .i64 a5) (.int .i64 a6) (.int .i64 a7) hz5
      have HNN := Lib.hid (box8T hz).1
      have HZB := Lib.hid (hzb w.heap.size (Nat.le_refl _))
      have HBF := Lib.hid (HA.out.trans (HB.out.mono (Nat.le_of_lt hr1)))
      obtain ⟨⟨z0, z1, z2, z3, z4, z5, z6, z7⟩, ⟨zf0, zf1, zf2, zf3, zf4, zf5, zf6, zf7⟩, zl⟩ := bx8f hz5
      clear hz hzb hz5
      go_wp2_with fail
      obtain ⟨n0, n1, n2, n3, n4, n5, n6, n7⟩ := HNN.out
      refine bodyPost_ret (v := .agg #[.int .i64 a0, .int .i64 a1, .int .i64 a2, .int .i64 a3, .int .i64 a4, .int .i64 a5, .int .i64 a6, .int .i64 a7]) (by simp [results, Tryz.results34, go_sem, n0, n1, n2, n3, n4, n5, n6, n7]) rfl ?_
      exact ⟨n, a0, a1, a2, a3, a4, a5, a6, a7, rfl, by rw [← HX.out]; exact HK.out, HI.out, HBF.out.trans HZB.out⟩
end Go.Proofs.YtgmppfhokfifgaaGreatDoor
