/-
  Contracts: the reference's ReadOp. Printed by gen_txa.py.
-/
import Derived.Test.YtgmppfhokfifgaaGreatDoorTxk
namespace Go.Proofs.YtgmppfhokfifgaaGreatDoor
set_option maxRecDepth 10000
open Go.RowKit Go.Sort
set_option linter.unusedSimpArgs false

theorem bx8_set {w : World} {g : Nat} {b0 b1 b2 b3 b4 b5 b6 b7 : Value} {t : TypeId} (a0 a1 a2 a3 a4 a5 a6 a7 : Value) (hx : w.heap[g]? = some (.cells #[b0, b1, b2, b3, b4, b5, b6, b7] t)) :
    let W := (((((((w.setCell ⟨g, 0, none⟩ a0).setCell ⟨g, 1, none⟩ a1).setCell ⟨g, 2, none⟩ a2).setCell ⟨g, 3, none⟩ a3).setCell ⟨g, 4, none⟩ a4).setCell ⟨g, 5, none⟩ a5).setCell ⟨g, 6, none⟩ a6).setCell ⟨g, 7, none⟩ a7
    W.heap[g]? = some (.cells #[a0, a1, a2, a3, a4, a5, a6, a7] t) ∧ (∀ j, j ≠ g → W.heap[j]? = w.heap[j]?) ∧ ∀ B, B ≤ g → Below B w W := by
  intro W
  refine ⟨?_, fun j hj => ?_, fun B hB => setBN hB (setBN hB (setBN hB (setBN hB (setBN hB (setBN hB (setBN hB (setBN hB (Below.refl _ _))))))))⟩
  · have s0 := heap_setCell_at (k := 0) a0 hx
    have s1 := heap_setCell_at (k := 1) a1 s0
    have s2 := heap_setCell_at (k := 2) a2 s1
    have s3 := heap_setCell_at (k := 3) a3 s2
    have s4 := heap_setCell_at (k := 4) a4 s3
    have s5 := heap_setCell_at (k := 5) a5 s4
    have s6 := heap_setCell_at (k := 6) a6 s5
    have s7 := heap_setCell_at (k := 7) a7 s6
    simpa using s7
  · simp only [W]
    rw [Below.heap_setCell _ _ _ _ hj, Below.heap_setCell _ _ _ _ hj, Below.heap_setCell _ _ _ _ hj, Below.heap_setCell _ _ _ _ hj, Below.heap_setCell _ _ _ _ hj, Below.heap_setCell _ _ _ _ hj, Below.heap_setCell _ _ _ _ hj, Below.heap_setCell _ _ _ _ hj]
theorem bx8f {w : World} {g : Nat} {a b c d e f h i : Value} {t : TypeId} (hx : w.heap[g]? = some (.cells #[a, b, c, d, e, f, h, i] t)) :
    (w.cell? ⟨g, 0, none⟩ = some a ∧ w.cell? ⟨g, 1, none⟩ = some b ∧ w.cell? ⟨g, 2, none⟩ = some c ∧ w.cell? ⟨g, 3, none⟩ = some d ∧ w.cell? ⟨g, 4, none⟩ = some e ∧ w.cell? ⟨g, 5, none⟩ = some f ∧ w.cell? ⟨g, 6, none⟩ = some h ∧ w.cell? ⟨g, 7, none⟩ = some i) ∧ (w.frozen? ⟨g, 0, none⟩ = false ∧ w.frozen? ⟨g, 1, none⟩ = false ∧ w.frozen? ⟨g, 2, none⟩ = false ∧ w.frozen? ⟨g, 3, none⟩ = false ∧ w.frozen? ⟨g, 4, none⟩ = false ∧ w.frozen? ⟨g, 5, none⟩ = false ∧ w.frozen? ⟨g, 6, none⟩ = false ∧ w.frozen? ⟨g, 7, none⟩ = false) ∧ g < w.heap.size := by
  have hf : ∀ k, w.frozen? ⟨g, k, none⟩ = false := fun k => by simp only [World.frozen?, hx]; simp
  exact ⟨(box8T hx).1, ⟨hf 0, hf 1, hf 2, hf 3, hf 4, hf 5, hf 6, hf 7⟩, (box8T hx).2⟩
theorem gt_list : gtB.toList = [62] := by rw [ByteArray.toList_eq]; rfl
theorem lt_list : ltB.toList = [60] := by rw [ByteArray.toList_eq]; rfl
theorem tl_inj {a b : ByteArray} (h : a.toList = b.toList) : a = b := ba_ext (by rw [← ByteArray.toList_eq, ← ByteArray.toList_eq]; exact h)
theorem gs_drop (ws : List ByteArray) (m k : Nat) : gs (ws.drop m) k = gs ws (m + k) := by simp [gs, List.getD]
theorem gs_size {c : UInt8} {s : ByteArray} {ws : List ByteArray} (h : IsSp c s.data.toList (bl_ ws)) {k : Nat} (hk : k < ws.length) : (gs ws k).size ≤ s.size := by
  have : ∀ {xs : List (List UInt8)} {x : List UInt8}, x ∈ xs → x.length ≤ ([c].intercalate xs).length := by
    intro xs
    induction xs with
    | nil => intro x hx; cases hx
    | cons a r ih =>
      intro x hx
      cases r with
      | nil => rw [inter_one]; simp only [List.mem_singleton] at hx; subst hx; exact Nat.le_refl _
      | cons b r =>
        rw [inter_cons _ (by simp), List.length_append, List.length_cons]
        rcases List.mem_cons.1 hx with e | e
        · subst e; omega
        · have := ih e; omega
  have h1 := this (x := (gs ws k).data.toList) (xs := bl_ ws) (List.mem_map.2 ⟨_, gs_mem hk, rfl⟩)
  rw [h.join, tl_len_, tl_len_] at h1
  exact h1
set_option maxRecDepth 100000 in
set_option maxHeartbeats 12800000 in
theorem spec_ReadOp_any (s : ByteArray) (w : World) (hs : s.size ≤ 1048576) :
    Calls Tryz.prog 21 #[.string s] w fun e w' => ∃ a0 a1 a2 a3 a4 a5 a6 a7 b, e = .returned (.tuple #[.agg #[.int .i64 a0, .int .i64 a1, .int .i64 a2, .int .i64 a3, .int .i64 a4, .int .i64 a5, .int .i64 a6, .int .i64 a7], .bool b]) ∧ RdRT s [a0, a1, a2, a3, a4, a5, a6, a7] b ∧ Below w.heap.size w w' := by
  have HB0 := Lib.hid (al1 w (.cells #[.int .i64 0, .int .i64 0, .int .i64 0, .int .i64 0, .int .i64 0, .int .i64 0, .int .i64 0, .int .i64 0] 38))
  have HX0 := Lib.hid (alloc_at_ w (.cells #[.int .i64 0, .int .i64 0, .int .i64 0, .int .i64 0, .int .i64 0, .int .i64 0, .int .i64 0, .int .i64 0] 38))
  go_enter Tryz.func21, Tryz.ntmps21
  go_wp2_with fail
  refine (l01Split_any s 32 32 rfl _ hs).mono ?_
  rintro e w1 ⟨v, ws, rfl, hsp, hlen, hv, hq⟩
  have HSP := Lib.hid hsp
  have HB1 := Lib.hid (HB0.out.trans (hq.mono (by simp)))
  have HX1 := Lib.hid (keep_fwd hq HX0.out)
  have hne : 0 < ws.length := by
    have := hsp.ne
    cases ws with
    | nil => simp [bl_] at this
    | cons a l => simp
  obtain ⟨g, off, c, rfl, hg, hlc, hcm, hcl⟩ := hv
  have HCL := Lib.hid hcl
  have q0 := hcl 0 hne
  have hneI : (0 : Int) < (ws.length : Int) := by omega
  rw [Nat.add_zero] at q0
  clear hsp hq hcl HX0 HB0
  go_wp2_with fail
  refine (l08Kind_any _ _).mono ?_
  rintro e w2 ⟨n, rfl, hk, hn9, hq⟩
  have HK := Lib.hid hk
  have HB2 := Lib.hid (HB1.out.trans (hq.mono HB1.out.size))
  have hr0 : w.heap.size < w2.heap.size := Nat.lt_of_lt_of_le (heap_lt HX1.out) hq.size
  have hg2 : g < w2.heap.size := Nat.lt_of_lt_of_le hg hq.size
  have HX2 := Lib.hid (keep_fwd hq HX1.out)
  have HCL2 : Hid (∀ k, k < ws.length → w2.cell? ⟨g, off + k, none⟩ = some (.string (gs ws k))) := Lib.hid fun k hk => by rw [hq.cell hg]; exact HCL.out k hk
  clear hk hq HB1 HX1 HCL q0
  have HG := Lib.hid hg2
  go_upto_region 3 with fail
  go_cut [4] (fun s4 wx => ∃ o2 c2, s4 = .slice (some ⟨g, o2, none⟩) (ws.length - 1) c2 ∧ (0 < ws.length - 1 → o2 = off + 1) ∧ ws.length - 1 ≤ c2 ∧ c2 ≤ c ∧ Below w2.heap.size w2 wx ∧ wx.heap[w2.heap.size]? = some (.cells #[.int .i64 ((n : Int)), .int .i64 0, .int .i64 0, .int .i64 0, .int .i64 0, .int .i64 0, .int .i64 0, .int .i64 0] 38))
  case first =>
    have ha := al1 w2 (.cells #[.int .i64 ((n : Int)), .int .i64 0, .int .i64 0, .int .i64 0, .int .i64 0, .int .i64 0, .int .i64 0, .int .i64 0] 38)
    have hb := alloc_at_ w2 (.cells #[.int .i64 ((n : Int)), .int .i64 0, .int .i64 0, .int .i64 0, .int .i64 0, .int .i64 0, .int .i64 0, .int .i64 0] 38)
    have HA := Lib.hid ha
    have HBX := Lib.hid hb
    clear ha hb
    by_cases hc1 : c = 1
    · go_wp2_with fail
      go_meet
      exact ⟨_, _, rfl, fun q => by omega, by omega, by omega, HA.out, HBX.out⟩
    · go_wp2_with fail
      go_meet
      exact ⟨_, _, rfl, fun q => rfl, by omega, by omega, HA.out, HBX.out⟩
  case rest =>
  obtain ⟨o2, c2, rfl, ho2, hc2, hc2c, hb3, hx3⟩ := hcut
  obtain ⟨w3, hw3⟩ : ∃ x, x = wc := ⟨_, rfl⟩
  subst hw3
  have HB3 := Lib.hid hb3
  have HX3 := Lib.hid hx3
  obtain ⟨nr, hnr⟩ : ∃ x, x = ws.length - 1 := ⟨_, rfl⟩
  rw [← hnr] at ho2 hc2
  obtain ⟨us, hus⟩ : ∃ us, us = ws.drop 1 := ⟨_, rfl⟩
  have hnrs : nr ≤ s.size + 1 := by omega
  have hrl : us.length = nr := by rw [hus, List.length_drop, hnr]
  have HUS := Lib.hid hus
  have HR1 : Hid (∀ k, k < nr → w2.cell? ⟨g, o2 + k, none⟩ = some (.string (gs us k)) ∧ (gs us k).size ≤ s.size) := Lib.hid fun k hk => by
    rw [HUS.out, gs_drop, ho2 (by omega), Nat.add_assoc]
    exact ⟨HCL2.out _ (by omega), gs_size HSP.out (by omega)⟩
  rw [show ws.length - 1 = nr from hnr.symm]
  obtain ⟨db, hdb⟩ : ∃ db : Bool, db = decide (0 < nr ∧ (gs us 0 = gtB ∨ gs us 0 = ltB)) := ⟨_, rfl⟩
  have HDB := Lib.hid hdb
  clear hb3 hx3 HCL2 ho2 hdb hnr hus
  go_upto_region 4 with fail
  go_cut [34] (fun s34 wx => s34 = .bool db ∧ wx = w3)
  case first =>
    by_cases h1 : 0 < nr
    · have h1I : (0 : Int) < (nr : Int) := by omega
      have c0 : w3.cell? ⟨g, o2, none⟩ = some (.string (gs us 0)) := (HB3.out.cell HG.out).trans (HR1.out 0 h1).1
      by_cases hg1 : gs us 0 = gtB
      · have HR : Hid (db = true) := Lib.hid (by rw [HDB.out]; exact decide_eq_true ⟨h1, .inl hg1⟩)
        have hcA : (gs us 0).toList = [62] := by rw [hg1]; exact gt_list
        have hcB : ¬ ((gs us 0).toList = [60]) := fun q => (by rw [hg1]; exact gt_ne_lt : gs us 0 ≠ ltB) (tl_inj (q.trans lt_list.symm))
        have hcA2 : ((gs us 0).toList == [62]) = true := by rw [hcA]; rfl
        have hcB2 : ((gs us 0).toList == [60]) = false := by rw [beq_eq_false_iff_ne]; exact hcB
        clear hg1
        go_wp2_with fail
        go_meet
        exact ⟨by rw [HR.out], rfl⟩
      · by_cases hl1 : gs us 0 = ltB
        · have HR : Hid (db = true) := Lib.hid (by rw [HDB.out]; exact decide_eq_true ⟨h1, .inr hl1⟩)
          have hcA : ¬ ((gs us 0).toList = [62]) := fun q => hg1 (tl_inj (q.trans gt_list.symm))
          have hcB : (gs us 0).toList = [60] := by rw [hl1]; exact lt_list
          have hcA2 : ((gs us 0).toList == [62]) = false := by rw [beq_eq_false_iff_ne]; exact hcA
          have hcB2 : ((gs us 0).toList == [60]) = true := by rw [hcB]; rfl
          clear hg1 hl1
          go_wp2_with fail
          go_meet
          exact ⟨by rw [HR.out], rfl⟩
        · have HR : Hid (db = false) := Lib.hid (by rw [HDB.out]; exact decide_eq_false (fun q => q.2.elim hg1 hl1))
          have hcA : ¬ ((gs us 0).toList = [62]) := fun q => hg1 (tl_inj (q.trans gt_list.symm))
          have hcB : ¬ ((gs us 0).toList = [60]) := fun q => hl1 (tl_inj (q.trans lt_list.symm))
          have hcA2 : ((gs us 0).toList == [62]) = false := by rw [beq_eq_false_iff_ne]; exact hcA
          have hcB2 : ((gs us 0).toList == [60]) = false := by rw [beq_eq_false_iff_ne]; exact hcB
          clear hg1 hl1
          go_wp2_with fail
          go_meet
          exact ⟨by rw [HR.out], rfl⟩
    · have h1I : ¬ ((0 : Int) < (nr : Int)) := by omega
      have HR : Hid (db = false) := Lib.hid (by rw [HDB.out]; exact decide_eq_false (fun q => h1 q.1))
      go_wp2_with fail
      go_meet
      exact ⟨by rw [HR.out], rfl⟩
  case rest =>
  obtain ⟨rfl, hw⟩ := hcut
  subst hw
  obtain ⟨w3, hw3⟩ : ∃ x, x = wc := ⟨_, rfl⟩
  subst hw3
  go_upto_if 34 with fail
  go_cut [4] (fun s4 wx => ∃ (rs : List ByteArray) (o3 c3 : Nat) (b0 b1 b2 b3 b4 b5 b6 b7 : Int), s4 = .slice (some ⟨g, o3, none⟩) rs.length c3 ∧ rs.length ≤ c3 ∧ rs.length ≤ s.size + 1 ∧ refO n us = refUp rs [b0, b1, b2, b3, b4, b5, b6, b7] rs.length ∧ (∀ k, k < rs.length → w2.cell? ⟨g, o3 + k, none⟩ = some (.string (gs rs k)) ∧ (gs rs k).size ≤ s.size) ∧ Below w2.heap.size w2 wx ∧ wx.heap[w2.heap.size]? = some (.cells #[.int .i64 b0, .int .i64 b1, .int .i64 b2, .int .i64 b3, .int .i64 b4, .int .i64 b5, .int .i64 b6, .int .i64 b7] 38))
  case first =>
    obtain ⟨⟨x0, x1, x2, x3, x4, x5, x6, x7⟩, ⟨xf0, xf1, xf2, xf3, xf4, xf5, xf6, xf7⟩, xl⟩ := bx8f HX3.out
    cases db
    · have HD2 : Hid (¬ (0 < nr ∧ (gs us 0 = gtB ∨ gs us 0 = ltB))) := Lib.hid (of_decide_eq_false HDB.out.symm)
      go_wp2_with fail
      go_meet
      refine ⟨us, o2, c2, _, _, _, _, _, _, _, _, by rw [hrl], by omega, by omega, ?_, fun k hk => HR1.out k (by omega), HB3.out, HX3.out⟩
      unfold refO
      rw [hrl, if_neg (fun q => HD2.out ⟨q.1, .inl q.2⟩), if_neg (fun q => HD2.out ⟨q.1, .inr q.2⟩)]
      rfl
    · have HD2 : Hid (0 < nr ∧ (gs us 0 = gtB ∨ gs us 0 = ltB)) := Lib.hid (of_decide_eq_true HDB.out.symm)
      have h1 := HD2.out.1
      have h1I : (0 : Int) < (nr : Int) := by omega
      have c0 : w3.cell? ⟨g, o2, none⟩ = some (.string (gs us 0)) := (HB3.out.cell HG.out).trans (HR1.out 0 h1).1
      have hdl : (us.drop 1).length = nr - 1 := by rw [List.length_drop, hrl]
      have HR2 : Hid (∀ k, k < nr - 1 → w2.cell? ⟨g, o2 + 1 + k, none⟩ = some (.string (gs (us.drop 1) k)) ∧ (gs (us.drop 1) k).size ≤ s.size) := Lib.hid fun k hk => by
        rw [gs_drop, Nat.add_assoc]
        exact HR1.out _ (by omega)
      by_cases hg1 : gs us 0 = gtB
      · have hcB : ¬ ((gs us 0).toList = [60]) := fun q => (by rw [hg1]; exact gt_ne_lt : gs us 0 ≠ ltB) (tl_inj (q.trans lt_list.symm))
        have hcB2 : ((gs us 0).toList == [60]) = false := by rw [beq_eq_false_iff_ne]; exact hcB
        have c1 : (w3.setCell ⟨w2.heap.size, 1, none⟩ (.int .i64 1)).cell? ⟨g, o2, none⟩ = some (.string (gs us 0)) := ((setBN (Nat.le_refl _) HB3.out).cell HG.out).trans (HR1.out 0 h1).1
        have HRF : Hid (refO n us = refUp (us.drop 1) [(n : Int), 1, 0, 0, 0, 0, 0, 0] (us.drop 1).length) := Lib.hid (by unfold refO; rw [if_pos ⟨by omega, hg1⟩]; rfl)
        clear hg1
        by_cases hc1 : c2 = 1
        · go_wp2_with fail
          go_meet
          exact ⟨us.drop 1, _, _, _, _, _, _, _, _, _, _, by rw [hdl], by omega, by omega, HRF.out, fun k hk => by omega, setBN (Nat.le_refl _) HB3.out, heap_setCell_at (k := 1) (.int .i64 1) HX3.out⟩
        · go_wp2_with fail
          go_meet
          exact ⟨us.drop 1, _, _, _, _, _, _, _, _, _, _, by rw [hdl], by omega, by omega, HRF.out, fun k hk => HR2.out k (by omega), setBN (Nat.le_refl _) HB3.out, heap_setCell_at (k := 1) (.int .i64 1) HX3.out⟩
      · have hl1 : gs us 0 = ltB := HD2.out.2.resolve_left hg1
        have hcB : (gs us 0).toList = [60] := by rw [hl1]; exact lt_list
        have hcB2 : ((gs us 0).toList == [60]) = true := by rw [hcB]; rfl
        have c1 : (w3.setCell ⟨w2.heap.size, 1, none⟩ (.int .i64 1)).cell? ⟨g, o2, none⟩ = some (.string (gs us 0)) := ((setBN (Nat.le_refl _) HB3.out).cell HG.out).trans (HR1.out 0 h1).1
        have HRF : Hid (refO n us = refUp (us.drop 1) [(n : Int), -1, 0, 0, 0, 0, 0, 0] (us.drop 1).length) := Lib.hid (by unfold refO; rw [if_neg (fun q => hg1 q.2), if_pos ⟨by omega, hl1⟩]; rfl)
        clear hg1 hl1
        by_cases hc1 : c2 = 1
        · go_wp2_with fail
          go_meet
          exact ⟨us.drop 1, _, _, _, _, _, _, _, _, _, _, by rw [hdl], by omega, by omega, HRF.out, fun k hk => by omega, setBN (Nat.le_refl _) (setBN (Nat.le_refl _) HB3.out), heap_setCell_at (k := 1) (.int .i64 (-1)) (heap_setCell_at (k := 1) (.int .i64 1) HX3.out)⟩
        · go_wp2_with fail
          go_meet
          exact ⟨us.drop 1, _, _, _, _, _, _, _, _, _, _, by rw [hdl], by omega, by omega, HRF.out, fun k hk => HR2.out k (by omega), setBN (Nat.le_refl _) (setBN (Nat.le_refl _) HB3.out), heap_setCell_at (k := 1) (.int .i64 (-1)) (heap_setCell_at (k := 1) (.int .i64 1) HX3.out)⟩
  case rest =>
  obtain ⟨rs, o3, c3, b0, b1, b2, b3, b4, b5, b6, b7, rfl, hc3, hrsz, hro, hrs, hb4, hx4⟩ := hcut
  obtain ⟨w4_, hw4⟩ : ∃ x, x = wc := ⟨_, rfl⟩
  subst hw4
  have HRO := Lib.hid hro
  have HRS := Lib.hid hrs
  have HB4 := Lib.hid hb4
  have HX4 := Lib.hid hx4
  clear hro hrs hb4 hx4 HR1 HDB HB3 HX3 hrl hc2
  go_wp2_with fail
  go_loopw [6] (fun i wr => ∃ (k : Nat) (a0 a1 a2 a3 a4 a5 a6 a7 : Int), k ≤ rs.length ∧ i = .int .i64 k ∧ Below w2.heap.size w2 wr ∧ wr.heap[w2.heap.size]? = some (.cells #[.int .i64 a0, .int .i64 a1, .int .i64 a2, .int .i64 a3, .int .i64 a4, .int .i64 a5, .int .i64 a6, .int .i64 a7] 38) ∧ refUp rs [b0, b1, b2, b3, b4, b5, b6, b7] k = [a0, a1, a2, a3, a4, a5, a6, a7]) (fun i _ => rs.length - (intOf i).toNat)
  case atStart => exact ⟨0, _, _, _, _, _, _, _, _, Nat.zero_le _, rfl, HB4.out, HX4.out, rfl⟩
  case round =>
    obtain ⟨k, a0, a1, a2, a3, a4, a5, a6, a7, hk, rfl, hb, hx, hu⟩ := hrel
    have HB := Lib.hid hb
    have HX := Lib.hid hx
    have HU := Lib.hid hu
    clear hb hx hu HB4 HX4
    by_cases hlt : k < rs.length
    · have hltI : (k : Int) < (rs.length : Int) := by omega
      obtain ⟨hc0, hsz⟩ := HRS.out k hlt
      obtain ⟨x, hx⟩ : ∃ x, x = gs rs k := ⟨_, rfl⟩
      rw [← hx] at hc0 hsz
      have HGX := Lib.hid hx
      have HC0 := Lib.hid hc0
      have hxs : x.size ≤ 1048576 := by omega
      have q0 : wr.cell? ⟨g, o3 + k, none⟩ = some (.string x) := (HB.out.cell hg2).trans hc0
      clear hx hc0
      obtain ⟨nb, na, nok, hN⟩ : ∃ b a ok, ndC x = (b, a, ok) := ⟨_, _, _, rfl⟩
      obtain ⟨m, mok, hM⟩ : ∃ a ok, numC x = (a, ok) := ⟨_, _, rfl⟩
      have HRN := Lib.hid (fun W : World => (show Calls Tryz.prog 40 #[.string x] W fun e w' => e = .returned (.tuple #[.agg #[.int .i64 nb, .int .i64 na], .bool nok]) ∧ Below W.heap.size W w' from by have := spec_ReadNeedle_any x W hxs; rw [hN] at this; exact this))
      have HNU := Lib.hid (fun W : World => (show Calls Tryz.prog 37 #[.string x] W fun e w' => e = .returned (.tuple #[.int .i64 m, .bool mok]) ∧ Below W.heap.size W w' from by have := l01Number_any x W hxs; rw [hM] at this; exact this))
      have HN := Lib.hid hN
      have HM := Lib.hid hM
      clear hN hM
      cases nok
      · cases mok
        · skip
          have HS : Hid (refStep k x [a0, a1, a2, a3, a4, a5, a6, a7] = [a0, a1, a2, a3, a4, a5, a6, a7]) := Lib.hid (by unfold refStep; rw [HN.out, HM.out]; simp [setF, setT, setR, setK, gi])
          go_wp2_with fail
          refine (HRN.out _).mono ?_
          rintro e w3 ⟨rfl, hq⟩
          have hb3 : Below w2.heap.size w2 (w3.alloc (.cells #[.int .i64 nb, .int .i64 na] 36)) := HB.out.trans ((hq.mono HB.out.size).trans ((al1 w3 _).mono (Nat.le_trans HB.out.size hq.size)))
          have hx3 := keep_fwd (al1 w3 (.cells #[.int .i64 nb, .int .i64 na] 36)) (keep_fwd hq HX.out)
          have hy3 := alloc_at_ w3 (.cells #[.int .i64 nb, .int .i64 na] 36)
          have q1 : (w3.alloc (.cells #[.int .i64 nb, .int .i64 na] 36)).cell? ⟨g, o3 + k, none⟩ = some (.string x) := (hb3.cell hg2).trans HC0.out
          have HB3 := Lib.hid hb3
          have HX3 := Lib.hid hx3
          have HY3 := Lib.hid hy3
          clear hb3 hx3 hy3 hq q0
          go_wp2_with fail
          refine (HNU.out _).mono ?_
          rintro e w4 ⟨rfl, hq⟩
          have hb4 := HB3.out.trans (hq.mono HB3.out.size)
          have hx4 := keep_fwd hq HX3.out
          have hy4 := keep_fwd hq HY3.out
          have HB4 := Lib.hid hb4
          have HX4 := Lib.hid hx4
          obtain ⟨⟨x0, x1, x2, x3, x4, x5, x6, x7⟩, ⟨xf0, xf1, xf2, xf3, xf4, xf5, xf6, xf7⟩, xl⟩ := bx8f hx4
          obtain ⟨y0, y1, yf0, yf1, yl⟩ := box2 hy4
          clear hb4 hx4 hy4 hq q1
          go_wp2_with fail
          go_roundw
          case rel =>
            exact ⟨k + 1, _, _, _, _, _, _, _, _, by omega, by go_num, HB4.out, HX4.out, by (show refStep k (gs rs k) (refUp rs [b0, b1, b2, b3, b4, b5, b6, b7] k) = _); rw [HU.out, ← HGX.out]; exact HS.out⟩
          case measure => simp [intOf]; omega
        · by_cases h7 : a0 = 7
          · subst h7
            have HS : Hid (refStep k x [7, a1, a2, a3, a4, a5, a6, a7] = [7, a1, a2, a3, a4, a5, a6, m]) := Lib.hid (by unfold refStep; rw [HN.out, HM.out]; simp [setF, setT, setR, setK, gi])
            go_wp2_with fail
            refine (HRN.out _).mono ?_
            rintro e w3 ⟨rfl, hq⟩
            have hb3 : Below w2.heap.size w2 (w3.alloc (.cells #[.int .i64 nb, .int .i64 na] 36)) := HB.out.trans ((hq.mono HB.out.size).trans ((al1 w3 _).mono (Nat.le_trans HB.out.size hq.size)))
            have hx3 := keep_fwd (al1 w3 (.cells #[.int .i64 nb, .int .i64 na] 36)) (keep_fwd hq HX.out)
            have hy3 := alloc_at_ w3 (.cells #[.int .i64 nb, .int .i64 na] 36)
            have q1 : (w3.alloc (.cells #[.int .i64 nb, .int .i64 na] 36)).cell? ⟨g, o3 + k, none⟩ = some (.string x) := (hb3.cell hg2).trans HC0.out
            have HB3 := Lib.hid hb3
            have HX3 := Lib.hid hx3
            have HY3 := Lib.hid hy3
            clear hb3 hx3 hy3 hq q0
            go_wp2_with fail
            refine (HNU.out _).mono ?_
            rintro e w4 ⟨rfl, hq⟩
            have hb4 := HB3.out.trans (hq.mono HB3.out.size)
            have hx4 := keep_fwd hq HX3.out
            have hy4 := keep_fwd hq HY3.out
            have HB4 := Lib.hid hb4
            have HX4 := Lib.hid hx4
            obtain ⟨⟨x0, x1, x2, x3, x4, x5, x6, x7⟩, ⟨xf0, xf1, xf2, xf3, xf4, xf5, xf6, xf7⟩, xl⟩ := bx8f hx4
            obtain ⟨y0, y1, yf0, yf1, yl⟩ := box2 hy4
            clear hb4 hx4 hy4 hq q1
            go_wp2_with fail
            go_roundw
            case rel =>
              exact ⟨k + 1, _, _, _, _, _, _, _, _, by omega, by go_num, setBN (Nat.le_refl _) (HB4.out), heap_setCell_at (k := 7) (.int .i64 m) (HX4.out), by (show refStep k (gs rs k) (refUp rs [b0, b1, b2, b3, b4, b5, b6, b7] k) = _); rw [HU.out, ← HGX.out]; exact HS.out⟩
            case measure => simp [intOf]; omega
          · skip
            have HS : Hid (refStep k x [a0, a1, a2, a3, a4, a5, a6, a7] = [a0, a1, a2, a3, a4, a5, m, a7]) := Lib.hid (by unfold refStep; rw [HN.out, HM.out]; simp [setF, setT, setR, setK, gi, h7])
            go_wp2_with fail
            refine (HRN.out _).mono ?_
            rintro e w3 ⟨rfl, hq⟩
            have hb3 : Below w2.heap.size w2 (w3.alloc (.cells #[.int .i64 nb, .int .i64 na] 36)) := HB.out.trans ((hq.mono HB.out.size).trans ((al1 w3 _).mono (Nat.le_trans HB.out.size hq.size)))
            have hx3 := keep_fwd (al1 w3 (.cells #[.int .i64 nb, .int .i64 na] 36)) (keep_fwd hq HX.out)
            have hy3 := alloc_at_ w3 (.cells #[.int .i64 nb, .int .i64 na] 36)
            have q1 : (w3.alloc (.cells #[.int .i64 nb, .int .i64 na] 36)).cell? ⟨g, o3 + k, none⟩ = some (.string x) := (hb3.cell hg2).trans HC0.out
            have HB3 := Lib.hid hb3
            have HX3 := Lib.hid hx3
            have HY3 := Lib.hid hy3
            clear hb3 hx3 hy3 hq q0
            go_wp2_with fail
            refine (HNU.out _).mono ?_
            rintro e w4 ⟨rfl, hq⟩
            have hb4 := HB3.out.trans (hq.mono HB3.out.size)
            have hx4 := keep_fwd hq HX3.out
            have hy4 := keep_fwd hq HY3.out
            have HB4 := Lib.hid hb4
            have HX4 := Lib.hid hx4
            obtain ⟨⟨x0, x1, x2, x3, x4, x5, x6, x7⟩, ⟨xf0, xf1, xf2, xf3, xf4, xf5, xf6, xf7⟩, xl⟩ := bx8f hx4
            obtain ⟨y0, y1, yf0, yf1, yl⟩ := box2 hy4
            clear hb4 hx4 hy4 hq q1
            go_wp2_with fail
            go_roundw
            case rel =>
              exact ⟨k + 1, _, _, _, _, _, _, _, _, by omega, by go_num, setBN (Nat.le_refl _) (HB4.out), heap_setCell_at (k := 6) (.int .i64 m) (HX4.out), by (show refStep k (gs rs k) (refUp rs [b0, b1, b2, b3, b4, b5, b6, b7] k) = _); rw [HU.out, ← HGX.out]; exact HS.out⟩
            case measure => simp [intOf]; omega
      · by_cases hk0 : k = 0
        · subst hk0
          rw [Nat.add_zero] at q0
          have HS : Hid (refStep 0 x [a0, a1, a2, a3, a4, a5, a6, a7] = [a0, a1, nb, na, a4, a5, a6, a7]) := Lib.hid (by unfold refStep; rw [HN.out]; simp [setF, setT, setR, setK, gi])
          go_wp2_with fail
          refine (HRN.out _).mono ?_
          rintro e w3 ⟨rfl, hq⟩
          have hb3 : Below w2.heap.size w2 (w3.alloc (.cells #[.int .i64 nb, .int .i64 na] 36)) := HB.out.trans ((hq.mono HB.out.size).trans ((al1 w3 _).mono (Nat.le_trans HB.out.size hq.size)))
          have hx3 := keep_fwd (al1 w3 (.cells #[.int .i64 nb, .int .i64 na] 36)) (keep_fwd hq HX.out)
          have hy3 := alloc_at_ w3 (.cells #[.int .i64 nb, .int .i64 na] 36)
          have q1 : (w3.alloc (.cells #[.int .i64 nb, .int .i64 na] 36)).cell? ⟨g, o3, none⟩ = some (.string x) := (hb3.cell hg2).trans HC0.out
          have HB3 := Lib.hid hb3
          have HX3 := Lib.hid hx3
          have HY3 := Lib.hid hy3
          clear hb3 hx3 hy3 hq q0
          go_wp2_with fail
          refine (HNU.out _).mono ?_
          rintro e w4 ⟨rfl, hq⟩
          have hb4 := HB3.out.trans (hq.mono HB3.out.size)
          have hx4 := keep_fwd hq HX3.out
          have hy4 := keep_fwd hq HY3.out
          have HB4 := Lib.hid hb4
          have HX4 := Lib.hid hx4
          obtain ⟨⟨x0, x1, x2, x3, x4, x5, x6, x7⟩, ⟨xf0, xf1, xf2, xf3, xf4, xf5, xf6, xf7⟩, xl⟩ := bx8f hx4
          obtain ⟨y0, y1, yf0, yf1, yl⟩ := box2 hy4
          clear hb4 hx4 hy4 hq q1
          go_wp2_with fail
          go_roundw
          case rel =>
            exact ⟨0 + 1, _, _, _, _, _, _, _, _, by omega, by go_num, setBN (Nat.le_refl _) (setBN (Nat.le_refl _) (HB4.out)), heap_setCell_at (k := 3) (.int .i64 na) (heap_setCell_at (k := 2) (.int .i64 nb) (HX4.out)), by (show refStep 0 (gs rs 0) (refUp rs [b0, b1, b2, b3, b4, b5, b6, b7] 0) = _); rw [HU.out, ← HGX.out]; exact HS.out⟩
          case measure => simp [intOf]; omega
        · have hk0I : ¬ ((k : Int) = 0) := by omega
          have hk0I2 : ((k : Int) == 0) = false := by simpa using hk0
          have HS : Hid (refStep k x [a0, a1, a2, a3, a4, a5, a6, a7] = [a0, a1, a2, a3, nb, na, a6, a7]) := Lib.hid (by unfold refStep; rw [HN.out]; simp [setF, setT, setR, setK, gi, hk0])
          go_wp2_with fail
          refine (HRN.out _).mono ?_
          rintro e w3 ⟨rfl, hq⟩
          have hb3 : Below w2.heap.size w2 (w3.alloc (.cells #[.int .i64 nb, .int .i64 na] 36)) := HB.out.trans ((hq.mono HB.out.size).trans ((al1 w3 _).mono (Nat.le_trans HB.out.size hq.size)))
          have hx3 := keep_fwd (al1 w3 (.cells #[.int .i64 nb, .int .i64 na] 36)) (keep_fwd hq HX.out)
          have hy3 := alloc_at_ w3 (.cells #[.int .i64 nb, .int .i64 na] 36)
          have q1 : (w3.alloc (.cells #[.int .i64 nb, .int .i64 na] 36)).cell? ⟨g, o3 + k, none⟩ = some (.string x) := (hb3.cell hg2).trans HC0.out
          have HB3 := Lib.hid hb3
          have HX3 := Lib.hid hx3
          have HY3 := Lib.hid hy3
          clear hb3 hx3 hy3 hq q0
          go_wp2_with fail
          refine (HNU.out _).mono ?_
          rintro e w4 ⟨rfl, hq⟩
          have hb4 := HB3.out.trans (hq.mono HB3.out.size)
          have hx4 := keep_fwd hq HX3.out
          have hy4 := keep_fwd hq HY3.out
          have HB4 := Lib.hid hb4
          have HX4 := Lib.hid hx4
          obtain ⟨⟨x0, x1, x2, x3, x4, x5, x6, x7⟩, ⟨xf0, xf1, xf2, xf3, xf4, xf5, xf6, xf7⟩, xl⟩ := bx8f hx4
          obtain ⟨y0, y1, yf0, yf1, yl⟩ := box2 hy4
          clear hb4 hx4 hy4 hq q1
          go_wp2_with fail
          go_roundw
          case rel =>
            exact ⟨k + 1, _, _, _, _, _, _, _, _, by omega, by go_num, setBN (Nat.le_refl _) (setBN (Nat.le_refl _) (HB4.out)), heap_setCell_at (k := 5) (.int .i64 na) (heap_setCell_at (k := 4) (.int .i64 nb) (HX4.out)), by (show refStep k (gs rs k) (refUp rs [b0, b1, b2, b3, b4, b5, b6, b7] k) = _); rw [HU.out, ← HGX.out]; exact HS.out⟩
          case measure => simp [intOf]; omega
    · obtain rfl : k = rs.length := by omega
      have HRD := Lib.hid (rd_ref HK.out HSP.out (o := [a0, a1, a2, a3, a4, a5, a6, a7]) ((congrArg (refO n) HUS.out.symm).trans (HRO.out.trans HU.out)) rfl)
      obtain ⟨⟨x0, x1, x2, x3, x4, x5, x6, x7⟩, ⟨xf0, xf1, xf2, xf3, xf4, xf5, xf6, xf7⟩, xl⟩ := bx8f HX.out
      by_cases he : s = { data := #[] }
      · have HRD2 := Lib.hid (HRD.out.2 (.inl he))
        have hcmp : s.toList.isEmpty = true := by rw [he, ByteArray.toList_eq]; rfl
        have HE := Lib.hid he
        clear he HRD
        obtain ⟨hz, -, hzb⟩ := bx8_set (.int .i64 0) (.int .i64 0) (.int .i64 0) (.int .i64 0) (.int .i64 0) (.int .i64 0) (.int .i64 0) (.int .i64 0) ((HB.out.block _ hr0).trans HX2.out)
        have HNN := Lib.hid (box8T hz).1
        have HZB := Lib.hid (hzb w.heap.size (Nat.le_refl _))
        have HBF := Lib.hid (HB2.out.trans (HB.out.mono (Nat.le_of_lt hr0)))
        clear hz hzb
        obtain ⟨⟨z0, z1, z2, z3, z4, z5, z6, z7⟩, ⟨zf0, zf1, zf2, zf3, zf4, zf5, zf6, zf7⟩, zl⟩ := bx8f ((HB.out.block _ hr0).trans HX2.out)
        go_wp2_with fail
        obtain ⟨n0, n1, n2, n3, n4, n5, n6, n7⟩ := HNN.out
        refine bodyPost_ret (v := .tuple #[.agg #[.int .i64 0, .int .i64 0, .int .i64 0, .int .i64 0, .int .i64 0, .int .i64 0, .int .i64 0, .int .i64 0], .bool false]) (by simp [results, Tryz.results21, go_sem, n0, n1, n2, n3, n4, n5, n6, n7]) rfl ?_
        exact ⟨0, 0, 0, 0, 0, 0, 0, 0, false, rfl, HRD2.out, HBF.out.trans HZB.out⟩
      · by_cases hs2 : opR a0 a1 a2 a3 a4 a5 a6 a7 = s
        · skip
          clear x0 x1 x2 x3 x4 x5 x6 x7 xf0 xf1 xf2 xf3 xf4 xf5 xf6 xf7 xl
          obtain ⟨⟨x0, x1, x2, x3, x4, x5, x6, x7⟩, ⟨xf0, xf1, xf2, xf3, xf4, xf5, xf6, xf7⟩, xl⟩ := bx8f HX.out
          have HRD2 := Lib.hid (HRD.out.1 ⟨he, hs2⟩)
          have hcmp : s.toList.isEmpty = false := ne_emp (Nat.pos_of_ne_zero fun q => he (ba_empty q))
          have hcmp2 := str_yes hs2
          clear he hs2 HRD
          go_wp2_with fail
          refine (spec_OpText_any _ _ _ _ _ _ _ _ _).mono ?_
          rintro e w5 ⟨rfl, hq⟩
          have hb5 := HB.out.trans (hq.mono HB.out.size)
          obtain ⟨⟨x0, x1, x2, x3, x4, x5, x6, x7⟩, ⟨xf0, xf1, xf2, xf3, xf4, xf5, xf6, xf7⟩, xl⟩ := bx8f (keep_fwd hq HX.out)
          obtain ⟨hz, -, hzb⟩ := bx8_set (.int .i64 a0) (.int .i64 a1) (.int .i64 a2) (.int .i64 a3) (.int .i64 a4) (.int .i64 a5) (.int .i64 a6) (.int .i64 a7) ((hb5.block _ hr0).trans HX2.out)
          have HNN := Lib.hid (box8T hz).1
          have HZB := Lib.hid (hzb w.heap.size (Nat.le_refl _))
          have HBF := Lib.hid (HB2.out.trans (hb5.mono (Nat.le_of_lt hr0)))
          have hz5 := (hb5.block _ hr0).trans HX2.out
          obtain ⟨⟨z0, z1, z2, z3, z4, z5, z6, z7⟩, ⟨zf0, zf1, zf2, zf3, zf4, zf5, zf6, zf7⟩, zl⟩ := bx8f (hz5)
          clear hz hzb hb5 hq hz5
          go_wp2_with fail
          obtain ⟨n0, n1, n2, n3, n4, n5, n6, n7⟩ := HNN.out
          refine bodyPost_ret (v := .tuple #[.agg #[.int .i64 a0, .int .i64 a1, .int .i64 a2, .int .i64 a3, .int .i64 a4, .int .i64 a5, .int .i64 a6, .int .i64 a7], .bool true]) (by simp [results, Tryz.results21, go_sem, n0, n1, n2, n3, n4, n5, n6, n7]) rfl ?_
          exact ⟨a0, a1, a2, a3, a4, a5, a6, a7, true, rfl, HRD2.out, HBF.out.trans HZB.out⟩
        · clear x0 x1 x2 x3 x4 x5 x6 x7 xf0 xf1 xf2 xf3 xf4 xf5 xf6 xf7 xl
          obtain ⟨⟨x0, x1, x2, x3, x4, x5, x6, x7⟩, ⟨xf0, xf1, xf2, xf3, xf4, xf5, xf6, xf7⟩, xl⟩ := bx8f HX.out
          have HRD2 := Lib.hid (HRD.out.2 (.inr hs2))
          have hcmp : s.toList.isEmpty = false := ne_emp (Nat.pos_of_ne_zero fun q => he (ba_empty q))
          have hcmp2 := str_no hs2
          clear he hs2 HRD
          go_wp2_with fail
          refine (spec_OpText_any _ _ _ _ _ _ _ _ _).mono ?_
          rintro e w5 ⟨rfl, hq⟩
          have hb5 := HB.out.trans (hq.mono HB.out.size)
          obtain ⟨⟨x0, x1, x2, x3, x4, x5, x6, x7⟩, ⟨xf0, xf1, xf2, xf3, xf4, xf5, xf6, xf7⟩, xl⟩ := bx8f (keep_fwd hq HX.out)
          obtain ⟨hz, -, hzb⟩ := bx8_set (.int .i64 0) (.int .i64 0) (.int .i64 0) (.int .i64 0) (.int .i64 0) (.int .i64 0) (.int .i64 0) (.int .i64 0) ((hb5.block _ hr0).trans HX2.out)
          have HNN := Lib.hid (box8T hz).1
          have HZB := Lib.hid (hzb w.heap.size (Nat.le_refl _))
          have HBF := Lib.hid (HB2.out.trans (hb5.mono (Nat.le_of_lt hr0)))
          have hz5 := (hb5.block _ hr0).trans HX2.out
          obtain ⟨⟨z0, z1, z2, z3, z4, z5, z6, z7⟩, ⟨zf0, zf1, zf2, zf3, zf4, zf5, zf6, zf7⟩, zl⟩ := bx8f (hz5)
          clear hz hzb hb5 hq hz5
          go_wp2_with fail
          obtain ⟨n0, n1, n2, n3, n4, n5, n6, n7⟩ := HNN.out
          refine bodyPost_ret (v := .tuple #[.agg #[.int .i64 0, .int .i64 0, .int .i64 0, .int .i64 0, .int .i64 0, .int .i64 0, .int .i64 0, .int .i64 0], .bool false]) (by simp [results, Tryz.results21, go_sem, n0, n1, n2, n3, n4, n5, n6, n7]) rfl ?_
          exact ⟨0, 0, 0, 0, 0, 0, 0, 0, false, rfl, HRD2.out, HBF.out.trans HZB.out⟩
end Go.Proofs.YtgmppfhokfifgaaGreatDoor
