/-
  Contracts: the reference's ReadProgram. Printed by gen_tyc.py.
-/
import Derived.Test.YtgmppfhokfifgaaGreatDoorTyb
import Derived.Test.YtgmppfhokfifgaaGreatDoorPo3
namespace Go.Proofs.YtgmppfhokfifgaaGreatDoor
set_option maxRecDepth 10000
open Go.RowKit Go.Sort
set_option linter.unusedSimpArgs false

theorem OwT.none_ (s : Nat) (e : TypeId) (w : World) : OwT s e (w.alloc (.cells #[] e)) w.heap.size (w.alloc (.cells #[] e)).heap.size (.slice (some ⟨w.heap.size, 0, none⟩) 0 0) [] := ⟨OwR.empty e s w, by simp⟩
theorem wrap_ {x y : Int} (h : x = y) (h1 : -9223372036854775808 ≤ y ∧ y ≤ 9223372036854775807) : IntKind.i64.wrap x = y := by rw [h]; exact IntWalk.i64_in _ (by omega)
theorem results_tmp4 {fn : Func} {t u v x : Tmp} (h : fn.results = #[.tmp t, .tmp u, .tmp v, .tmp x]) (tmps : Array Value) (P : Program) (w : World) :
    (results fn tmps).run P w = .ok (.tuple #[tmps.getD t undef, tmps.getD u undef, tmps.getD v undef, tmps.getD x undef]) w := by
  simp [results, h]
set_option maxRecDepth 100000 in
set_option maxHeartbeats 12800000 in
theorem spec_ReadProgram_any (s : ByteArray) (w : World) (hs : s.size ≤ 1048576) :
    Calls Tryz.prog 5 #[.string s] w fun e w' => ∃ (n ln code : Int) (v : Value) (os : List (List Int)), e = .returned (.tuple #[.int .i64 n, v, .int .i64 ln, .int .i64 code]) ∧ OwT 8 38 w' w.heap.size w'.heap.size v os ∧ RdP s n os ln code ∧ os.length ≤ 1500 ∧ Below w.heap.size w w' := by
  go_enter Tryz.func5, Tryz.ntmps5
  go_wp2_with fail
  refine (l01Split_any s 10 10 rfl _ hs).mono ?_
  rintro e w1 ⟨v, ls, rfl, hsp, hlen, hv, hq⟩
  obtain ⟨g, off, c, rfl, hg, hlc, hcm, hcl⟩ := hv
  have HSP := Lib.hid hsp
  have HB1 := Lib.hid hq
  have hne : 0 < ls.length := by
    have := hsp.ne
    cases ls with
    | nil => simp [bl_] at this
    | cons a l => simp
  obtain ⟨last, hll⟩ : ∃ last, ls.length = last + 1 := ⟨ls.length - 1, by omega⟩
  have HCL : Hid (∀ k, k < ls.length → w1.cell? ⟨g, off + k, none⟩ = some (.string (gs ls k)) ∧ (gs ls k).size ≤ s.size) := Lib.hid fun k hk => ⟨hcl k hk, gs_size hsp hk⟩
  have q0 := (HCL.out 0 hne).1
  rw [Nat.add_zero] at q0
  have hneI : (0 : Int) < (ls.length : Int) := by omega
  have hwr : IntKind.i64.wrap ((ls.length : Int) - 1) = (last : Int) := wrap_ (by omega) (by omega)
  clear hsp hq hcl
  by_cases hbig : 1501 < last
  · have hbigI : (1501 : Int) < (last : Int) := by omega
    have HR : Hid (RdP s 0 [] 0 5) := Lib.hid ⟨ls, HSP.out, .inl ⟨by omega, rfl, rfl, rfl, rfl⟩⟩
    go_wp2_with fail
    try simp only [Exit.inBlock, Exit.then]
    refine bodyPost_ret (results_tmp4 rfl _ _ _) rfl ?_
    exact ⟨_, _, _, _, [], rfl, OwT.nil _ _ _ _ _, HR.out, by simp, HB1.out⟩
  · have hbigI : ¬ ((1501 : Int) < (last : Int)) := by omega
    have hx0 := (HCL.out 0 hne).2
    obtain ⟨W, hW⟩ : ∃ W, W = widC (gs ls 0) := ⟨_, rfl⟩
    have HWD := Lib.hid hW
    have hWr := widC_rng_ (gs ls 0)
    rw [← hW] at hWr
    go_wp2_with fail
    refine (l08Width_any _ _ (by omega)).mono ?_
    rintro e w2 ⟨rfl, hq⟩
    rw [← hW]
    have HB2 := Lib.hid (HB1.out.trans (hq.mono HB1.out.size))
    have hg2 : g < w2.heap.size := Nat.lt_of_lt_of_le hg hq.size
    have HCL2 : Hid (∀ k, k < ls.length → w2.cell? ⟨g, off + k, none⟩ = some (.string (gs ls k)) ∧ (gs ls k).size ≤ s.size) := Lib.hid fun k hk => ⟨(hq.cell hg).trans (HCL.out k hk).1, (HCL.out k hk).2⟩
    have hz2 := HB2.out.size
    clear hq HB1 HCL q0 hW hx0
    by_cases hW0 : W = 0
    · subst hW0
      have HR : Hid (RdP s 0 [] 1 11) := Lib.hid ⟨ls, HSP.out, .inr (.inl ⟨by omega, .inl HWD.out.symm, rfl, rfl, rfl, rfl⟩)⟩
      go_wp2_with fail
      try simp only [Exit.inBlock, Exit.then]
      refine bodyPost_ret (results_tmp4 rfl _ _ _) rfl ?_
      exact ⟨_, _, _, _, [], rfl, OwT.nil _ _ _ _ _, HR.out, by simp, HB2.out⟩
    · skip
      by_cases hl0 : last = 0
      · subst hl0
        have HR : Hid (RdP s 0 [] 1 11) := Lib.hid ⟨ls, HSP.out, .inr (.inl ⟨by omega, .inr (by omega), rfl, rfl, rfl, rfl⟩)⟩
        go_wp2_with fail
        try simp only [Exit.inBlock, Exit.then]
        refine bodyPost_ret (results_tmp4 rfl _ _ _) rfl ?_
        exact ⟨_, _, _, _, [], rfl, OwT.nil _ _ _ _ _, HR.out, by simp, HB2.out⟩
      · have hl0I : ¬ ((last : Int) = 0) := by omega
        have hl0p : 0 < last := by omega
        have hl0b : ((last : Int) == 0) = false := by simp; omega
        have hW0b : (W == 0) = false := by simpa using hW0
        have HN0 := Lib.hid (al1 w2 (.cells #[] 38))
        have HE0 : Hid (OwT 8 38 (w2.alloc (.cells #[] 38)) w2.heap.size (w2.alloc (.cells #[] 38)).heap.size (.slice (some ⟨w2.heap.size, 0, none⟩) 0 0) []) := Lib.hid (OwT.none_ 8 _ _)
        go_wp2_with fail
        go_loopw [9, 10] (fun v i wr => ∃ (j : Nat) (os : List (List Int)), 1 ≤ j ∧ j ≤ last ∧ i = .int .i64 j ∧ OwT 8 38 wr w2.heap.size wr.heap.size v os ∧ LnOk W ls (j - 1) os ∧ Below w2.heap.size w2 wr) (fun _ i _ => last - (intOf i).toNat)
        case atStart => exact ⟨1, [], Nat.le_refl _, by omega, rfl, HE0.out, LnOk.nil _ _, HN0.out⟩
        case round =>
          obtain ⟨j, os, hj1, hj, rfl, ho, hln, hb⟩ := hrel
          have HO := Lib.hid ho
          have HLN := Lib.hid hln
          have HB := Lib.hid hb
          have hzr := hb.size
          have HOL := Lib.hid hln.len
          obtain ⟨p, c9, rfl, -⟩ := id (ho.sl (Nat.le_refl _))
          clear ho hln hb HN0 HE0
          by_cases hlt : j < last
          · have hltI : (j : Int) < (last : Int) := by omega
            obtain ⟨hc0, hsz⟩ := HCL2.out j (by omega)
            obtain ⟨x, hx⟩ : ∃ x, x = gs ls j := ⟨_, rfl⟩
            rw [← hx] at hc0 hsz
            have HGX := Lib.hid hx
            have q0 : wr.cell? ⟨g, off + j, none⟩ = some (.string x) := (HB.out.cell hg2).trans hc0
            have hwj : IntKind.i64.wrap ((j : Int) + 1) = (j : Int) + 1 := wrap_ rfl (by omega)
            clear hc0 hx
            go_wp2_with fail
            refine (spec_ReadOp_any x _ (by omega)).mono ?_
            rintro e w3 ⟨a0, a1, a2, a3, a4, a5, a6, a7, b, rfl, hr, hq⟩
            have HR := Lib.hid hr
            have hb3 : Below w2.heap.size w2 (w3.alloc (.cells #[.int .i64 a0, .int .i64 a1, .int .i64 a2, .int .i64 a3, .int .i64 a4, .int .i64 a5, .int .i64 a6, .int .i64 a7] 38)) := HB.out.trans ((hq.mono hzr).trans ((al1 w3 _).mono (Nat.le_trans hzr hq.size)))
            have HB3 := Lib.hid hb3
            have HBW := Lib.hid (HB2.out.trans (hb3.mono hz2))
            have HO3 := Lib.hid (HO.out.below (hq.trans ((al1 w3 (.cells #[.int .i64 a0, .int .i64 a1, .int .i64 a2, .int .i64 a3, .int .i64 a4, .int .i64 a5, .int .i64 a6, .int .i64 a7] 38)).mono hq.size)) (Nat.le_refl _))
            have hz3 : wr.heap.size ≤ (w3.alloc (.cells #[.int .i64 a0, .int .i64 a1, .int .i64 a2, .int .i64 a3, .int .i64 a4, .int .i64 a5, .int .i64 a6, .int .i64 a7] 38)).heap.size := Nat.le_trans hq.size (al1 w3 _).size
            obtain ⟨⟨x0, x1, x2, x3, x4, x5, x6, x7⟩, xl⟩ := box8T (alloc_at_ w3 (.cells #[.int .i64 a0, .int .i64 a1, .int .i64 a2, .int .i64 a3, .int .i64 a4, .int .i64 a5, .int .i64 a6, .int .i64 a7] 38))
            have HAT : Hid (OpAt (w3.alloc (.cells #[.int .i64 a0, .int .i64 a1, .int .i64 a2, .int .i64 a3, .int .i64 a4, .int .i64 a5, .int .i64 a6, .int .i64 a7] 38)) w3.heap.size 0 a0 a1 a2 a3 a4 a5 a6 a7) := Lib.hid ⟨x0, x1, x2, x3, x4, x5, x6, x7⟩
            clear hr hq hb3 q0
            cases b
            · have HRP : Hid (RdP s 0 [] ((j : Int) + 1) 11) := Lib.hid ⟨ls, HSP.out, .inr (.inr (.inl ⟨by omega, by rw [← HWD.out]; exact hW0, ⟨j - 1, os, by omega, by rw [← HWD.out]; exact HLN.out, by rw [← HWD.out]; rw [show j - 1 + 1 = j by omega]; rw [← HGX.out]; exact bad_of_no HR.out, by omega⟩, rfl, rfl, rfl⟩))⟩
              go_wp2_with fail
              try simp only [Exit.inBlock, Exit.then]
              refine bodyPost_ret (results_tmp4 rfl _ _ _) rfl ?_
              exact ⟨_, _, _, _, [], rfl, OwT.nil _ _ _ _ _, HRP.out, by simp, HBW.out⟩
            · cases hft : (decide (a3 < W) && decide (a5 < W))
              · have HRP : Hid (RdP s 0 [] ((j : Int) + 1) 11) := Lib.hid ⟨ls, HSP.out, .inr (.inr (.inl ⟨by omega, by rw [← HWD.out]; exact hW0, ⟨j - 1, os, by omega, by rw [← HWD.out]; exact HLN.out, by rw [← HWD.out]; rw [show j - 1 + 1 = j by omega]; rw [← HGX.out]; exact bad_of_fit HR.out hft, by omega⟩, rfl, rfl, rfl⟩))⟩
                have HF := Lib.hid (is_same hft (l07Fits_any _ _ _ _ _ _ _ _ W _ _ _ HAT.out))
                clear hft
                go_wp2_with fail
                refine HF.out.mono ?_
                rintro e w4 ⟨rfl, hw4⟩
                subst hw4
                go_wp2_with fail
                try simp only [Exit.inBlock, Exit.then]
                refine bodyPost_ret (results_tmp4 rfl _ _ _) rfl ?_
                exact ⟨_, _, _, _, [], rfl, OwT.nil _ _ _ _ _, HRP.out, by simp, HBW.out⟩
              · have HF := Lib.hid (is_same hft (l07Fits_any _ _ _ _ _ _ _ _ W _ _ _ HAT.out))
                have HLN2 : Hid (LnOk W ls j (os ++ [[a0, a1, a2, a3, a4, a5, a6, a7]])) := Lib.hid (by have := HLN.out.snoc (o := [a0, a1, a2, a3, a4, a5, a6, a7]) (by rw [show j - 1 + 1 = j by omega, ← HGX.out]; exact HR.out) hft; rwa [show j - 1 + 1 = j by omega] at this)
                clear hft
                go_wp2_with fail
                refine HF.out.mono ?_
                rintro e w4 ⟨rfl, hw4⟩
                subst hw4
                go_wp2_with (at_builtin; refine wpList_append_o1 rfl _ _ rfl _ _ _ _ os a0 a1 a2 a3 a4 a5 a6 a7 rfl rfl (by simp) HO3.out (by have := HB3.out.size; exact this) (by have := HOL.out; omega) ?_; intro v2 w5 hO5 hg5; obtain ⟨zs, hzs⟩ : ∃ zs, zs = os ++ [[a0, a1, a2, a3, a4, a5, a6, a7]] := ⟨_, rfl⟩; rw [← hzs] at hO5; have HZS := Lib.hid hzs; clear hzs; obtain ⟨p5, c5, rfl, -⟩ := id (hO5.sl (Nat.le_refl _)); have HO5 := Lib.hid hO5; have HB5 := Lib.hid (HB3.out.trans (HO3.out.1.grown hg5 (Nat.le_refl _) (by have := HB3.out.size; exact this))); clear hO5 hg5)
                go_roundw
                case rel => exact ⟨j + 1, zs, by omega, by omega, by go_num, HO5.out, by rw [Nat.add_sub_cancel, HZS.out]; exact HLN2.out, HB5.out⟩
                case measure => simp [intOf]; omega
          · obtain rfl : j = last := by omega
            obtain ⟨hc0, -⟩ := HCL2.out j (by omega)
            obtain ⟨x, hx⟩ : ∃ x, x = gs ls j := ⟨_, rfl⟩
            rw [← hx] at hc0
            have HGX := Lib.hid hx
            have q0 : wr.cell? ⟨g, off + j, none⟩ = some (.string x) := (HB.out.cell hg2).trans hc0
            have HBW := Lib.hid (HB2.out.trans (HB.out.mono hz2))
            have HLE : Hid (LnOk W ls (ls.length - 2) os) := Lib.hid (by rw [show ls.length - 2 = j - 1 by omega]; exact HLN.out)
            have HOE := Lib.hid (HO.out.mono hz2 (Nat.le_refl _))
            clear hc0 hx
            by_cases he : x = { data := #[] }
            · have HRP : Hid (RdP s W os 0 0) := Lib.hid ⟨ls, HSP.out, .inr (.inr (.inr (.inr ⟨by omega, by omega, by rw [← HWD.out]; exact hW0, by rw [← HWD.out]; exact HLE.out, by rw [show ls.length - 1 = j by omega, ← HGX.out]; exact he, HWD.out, rfl, rfl⟩)))⟩
              have hcmp : x.toList.isEmpty = true := by rw [he, ByteArray.toList_eq]; rfl
              clear he
              go_wp2_with fail
              try simp only [Exit.inBlock, Exit.then]
              refine bodyPost_ret (results_tmp4 rfl _ _ _) rfl ?_
              exact ⟨_, _, _, _, os, rfl, HOE.out, HRP.out, by have := HOL.out; omega, HBW.out⟩
            · have HRP : Hid (RdP s 0 [] ((j : Int) + 1) 11) := Lib.hid ⟨ls, HSP.out, .inr (.inr (.inr (.inl ⟨by omega, by omega, by rw [← HWD.out]; exact hW0, ⟨os, by rw [← HWD.out]; exact HLE.out⟩, by rw [show ls.length - 1 = j by omega, ← HGX.out]; exact he, rfl, rfl, by omega, rfl⟩)))⟩
              have hcmp : x.toList.isEmpty = false := ne_emp (Nat.pos_of_ne_zero fun q => he (ba_empty q))
              have hwj : IntKind.i64.wrap ((j : Int) + 1) = (j : Int) + 1 := wrap_ rfl (by omega)
              clear he
              go_wp2_with fail
              try simp only [Exit.inBlock, Exit.then]
              refine bodyPost_ret (results_tmp4 rfl _ _ _) rfl ?_
              exact ⟨_, _, _, _, [], rfl, OwT.nil _ _ _ _ _, HRP.out, by simp, HBW.out⟩
end Go.Proofs.YtgmppfhokfifgaaGreatDoor
