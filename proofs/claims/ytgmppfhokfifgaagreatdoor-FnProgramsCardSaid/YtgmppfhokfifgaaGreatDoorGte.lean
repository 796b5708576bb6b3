/-
  Contracts: the width's line (l08Width of the reference, readWidth of the program); append of an operation.
-/
import Derived.Test.YtgmppfhokfifgaaGreatDoorTya
import Derived.Test.YtgmppfhokfifgaaGreatDoorGsh
import Derived.Test.YtgmppfhokfifgaaGreatDoorPo3
namespace Go.Proofs.YtgmppfhokfifgaaGreatDoor
set_option maxRecDepth 10000
open Go.RowKit Go.Sort
set_option linter.unusedSimpArgs false

set_option maxHeartbeats 3200000 in
theorem readWidth_any (x : ByteArray) {w : World} (hs : x.size ≤ 1048576) (hd : Dw w) : Calls Tryz.prog 24 #[.string x] w fun e w' => ∃ n ok, e = .returned (.tuple #[.int .i64 n, .bool ok]) ∧ ((ok = true ∧ n = widC x ∧ widC x ≠ 0) ∨ (ok = false ∧ widC x = 0)) ∧ Below w.heap.size w w' := by
  obtain ⟨t, ht⟩ : ∃ t : ByteArray, t = ⟨(Lib.trimPrefix x.data.toList widB.data.toList).toArray⟩ := ⟨_, rfl⟩
  obtain ⟨fd, hfd⟩ : ∃ fd, fd = Lib.hasPrefix x.data.toList widB.data.toList := ⟨_, rfl⟩
  have HC : Hid (Calls Tryz.prog 43 #[.string x, .string { data := #[119, 105, 100, 116, 104, 32] }] w fun e w' => e = .returned (.tuple #[.string t, .bool fd]) ∧ w' = w) := Lib.hid (by rw [ht, hfd]; exact Tryz.strings_CutPrefix x widB w)
  have htl : t.data.toList = Lib.trimPrefix x.data.toList widB.data.toList := by rw [ht]
  have hts : t.size ≤ 1048576 := by
    rw [← tl_len_, htl]
    have : (Lib.trimPrefix x.data.toList widB.data.toList).length ≤ x.data.toList.length := by
      unfold Lib.trimPrefix
      split
      · rw [List.length_drop]; omega
      · exact Nat.le_refl _
    rw [tl_len_] at this
    omega
  have HP : Hid ((fd = true → widB ++ t = x) ∧ (fd = false → widC x = 0)) := Lib.hid (by
    refine ⟨fun q => ?_, fun q => ?_⟩
    · rw [q] at hfd
      apply ba_ext
      rw [app_list, htl]
      unfold Lib.trimPrefix
      have hp : widB.data.toList <+: x.data.toList := by
        have h := hfd.symm
        unfold Lib.hasPrefix at h
        exact List.isPrefixOf_iff_prefix.1 h
      obtain ⟨r, hr⟩ := hp
      rw [if_pos (by first | exact hfd.symm | simpa [Lib.hasPrefix] using hfd.symm), ← hr, List.drop_left]
    · refine widC_no fun e => ?_
      rw [q] at hfd
      have h2 : Lib.hasPrefix x.data.toList widB.data.toList = true := by
        unfold Lib.hasPrefix
        rw [List.isPrefixOf_iff_prefix]
        exact ⟨_, by rw [← app_list, e]⟩
      rw [h2] at hfd
      cases hfd)
  obtain ⟨m, mok, hM⟩ : ∃ a ok, numC t = (a, ok) := ⟨_, _, rfl⟩
  have HM1 : Hid ((numC t).1 = m) := Lib.hid (by rw [hM])
  have HM2 : Hid ((numC t).2 = mok) := Lib.hid (by rw [hM])
  have HNU : Hid (Calls Tryz.prog 44 #[.string t] w fun e w' => e = .returned (.tuple #[.int .i64 m, .bool mok]) ∧ Below w.heap.size w w') := Lib.hid (by
    have := ReadDecimal_any t hts hd
    rw [hM] at this
    exact this)
  clear hM ht hfd htl hd
  have HWR : Hid ((inR m 1 24 = true → widC x = m ∧ widC x ≠ 0) ∨ mok = false ∨ fd = false) := Lib.hid (by
    cases mok
    · exact .inr (.inl rfl)
    cases fd
    · exact .inr (.inr rfl)
    · refine .inl fun q => ?_
      have h := widC_yes (HP.out.1 rfl) HM2.out (by rw [HM1.out]; exact inR_iff.1 q)
      have h2 := (inR_iff.1 q).1
      rw [h, HM1.out]
      exact ⟨rfl, by omega⟩)
  cases fd
  · have HW := Lib.hid (HP.out.2 rfl)
    go_enter Tryz.func24, Tryz.ntmps24
    go_wp2_with fail
    refine HC.out.mono ?_
    rintro e w1 ⟨rfl, hw⟩
    subst hw
    go_wp2_with fail
    refine HNU.out.mono ?_
    rintro e w2 ⟨rfl, hq⟩
    have HB := Lib.hid hq
    clear hq
    go_wp2_with fail
    go_ret2
    exact ⟨_, _, rfl, .inr ⟨rfl, HW.out⟩, HB.out⟩
  · cases mok
    · have HW := Lib.hid (widC_num (HP.out.1 rfl) HM2.out)
      go_enter Tryz.func24, Tryz.ntmps24
      go_wp2_with fail
      refine HC.out.mono ?_
      rintro e w1 ⟨rfl, hw⟩
      subst hw
      go_wp2_with fail
      refine HNU.out.mono ?_
      rintro e w2 ⟨rfl, hq⟩
      have HB := Lib.hid hq
      clear hq
      go_wp2_with fail
      go_ret2
      exact ⟨_, _, rfl, .inr ⟨rfl, HW.out⟩, HB.out⟩
    · cases hr : inR m 1 24
      · have HW := Lib.hid (widC_rng (HP.out.1 rfl) (by rw [HM1.out]; intro q; rw [inR_iff.2 q] at hr; cases hr))
        have HL := Lib.hid (fun W : World => is_same hr (within_any m 1 24 W))
        clear hr
        go_enter Tryz.func24, Tryz.ntmps24
        go_wp2_with fail
        refine HC.out.mono ?_
        rintro e w1 ⟨rfl, hw⟩
        subst hw
        go_wp2_with fail
        refine HNU.out.mono ?_
        rintro e w2 ⟨rfl, hq⟩
        have HB := Lib.hid hq
        clear hq
        go_wp2_with fail
        refine (HL.out _).mono ?_
        rintro e w3 ⟨rfl, rfl⟩
        go_wp2_with fail
        go_ret2
        exact ⟨_, _, rfl, .inr ⟨rfl, HW.out⟩, HB.out⟩
      · have HW := Lib.hid ((HWR.out.resolve_right (fun q => by rcases q with q | q <;> cases q)) hr)
        have HL := Lib.hid (fun W : World => is_same hr (within_any m 1 24 W))
        clear hr
        go_enter Tryz.func24, Tryz.ntmps24
        go_wp2_with fail
        refine HC.out.mono ?_
        rintro e w1 ⟨rfl, hw⟩
        subst hw
        go_wp2_with fail
        refine HNU.out.mono ?_
        rintro e w2 ⟨rfl, hq⟩
        have HB := Lib.hid hq
        clear hq
        go_wp2_with fail
        refine (HL.out _).mono ?_
        rintro e w3 ⟨rfl, rfl⟩
        go_wp2_with fail
        go_ret2
        exact ⟨_, _, rfl, .inl ⟨rfl, HW.out.1.symm, HW.out.2⟩, HB.out⟩
/-- append of one operation to a row of the call's own. -/
theorem wpList_append_o1 {ops : Array Oper} {rest : List Oper} {o : Oper} {a : Act} {Q : Exit → Act → World → Prop} (hgd : o.guard = none) (s x : Operand)
    (ho : o.op = .call { callee := .builtin .append, args := #[s, x], argTypes := #[22, 22] })
    (w : World) (lo hi : Nat) (v : Value) (os : List (List Int)) (a0 a1 a2 a3 a4 a5 a6 a7 : Int) (hs : a.eval s = v) {b : Nat} (hx : a.eval x = .slice (some ⟨b, 0, none⟩) 1 1) (hb : b = w.heap.size)
    (hown : OwT 8 38 w lo hi v os) (hlo : lo ≤ w.heap.size) (hlen : os.length ≤ 1000000)
    (h : ∀ v' w', OwT 8 38 w' lo w'.heap.size v' (os ++ [[a0, a1, a2, a3, a4, a5, a6, a7]]) → w.grownBy w' v.ownBlock → wpList Tryz.prog ops Q rest (a.put o.dst v') w') :
    wpList Tryz.prog ops Q (o :: rest) a (w.alloc (.cells #[.int .i64 a0, .int .i64 a1, .int .i64 a2, .int .i64 a3, .int .i64 a4, .int .i64 a5, .int .i64 a6, .int .i64 a7] 38)) := by
  subst hb
  refine wpList_append_elem Tryz.underlying22 op_info rfl (by omega) (by omega) hgd s x ho w lo hi v os.length (vals os.flatten) [.int .i64 a0, .int .i64 a1, .int .i64 a2, .int .i64 a3, .int .i64 a4, .int .i64 a5, .int .i64 a6, .int .i64 a7] hs hx hown.1 hlo (by omega) rfl (by simp [Value.oneCell']) ?_
  intro v' w' h1 h2 _
  refine h v' w' ⟨?_, fun r hr => ?_⟩ h2
  · have e : vals (os ++ [[a0, a1, a2, a3, a4, a5, a6, a7]]).flatten = vals os.flatten ++ [.int .i64 a0, .int .i64 a1, .int .i64 a2, .int .i64 a3, .int .i64 a4, .int .i64 a5, .int .i64 a6, .int .i64 a7] := by simp [vals]
    rw [e, List.length_append]
    exact h1
  · rcases List.mem_append.1 hr with hr | hr
    · exact hown.2 r hr
    · simp only [List.mem_singleton] at hr
      subst hr
      rfl
end Go.Proofs.YtgmppfhokfifgaaGreatDoor
/-
  Contracts: the reference's ReadProgram. Printed by gen_tyc.py.
-/
namespace Go.Proofs.YtgmppfhokfifgaaGreatDoor
set_option maxRecDepth 10000
open Go.RowKit Go.Sort
set_option linter.unusedSimpArgs false

theorem OwT.none_ (s : Nat) (e : TypeId) (w : World) : OwT s e (w.alloc (.cells #[] e)) w.heap.size (w.alloc (.cells #[] e)).heap.size (.slice (some ⟨w.heap.size, 0, none⟩) 0 0) [] := ⟨OwR.empty e s w, by simp⟩
theorem wrap_ {x y : Int} (h : x = y) (h1 : -9223372036854775808 ≤ y ∧ y ≤ 9223372036854775807) : IntKind.i64.wrap x = y := by rw [h]; exact IntWalk.i64_in _ (by omega)
theorem results_tmp4 {fn : Func} {t u v x : Tmp} (h : fn.results = #[.tmp t, .tmp u, .tmp v, .tmp x]) (tmps : Array Value) (P : Program) (w : World) :
    (results fn tmps).run P w = .ok (.tuple #[tmps.getD t undef, tmps.getD u undef, tmps.getD v undef, tmps.getD x undef]) w := by
  simp [results, h]
end Go.Proofs.YtgmppfhokfifgaaGreatDoor
/-
  Contracts: the program's ReadProgram. Printed by gen_tyc.py.
-/
namespace Go.Proofs.YtgmppfhokfifgaaGreatDoor
set_option maxRecDepth 10000
open Go.RowKit Go.Sort
set_option linter.unusedSimpArgs false

set_option maxRecDepth 100000 in
set_option maxHeartbeats 12800000 in
theorem impl_ReadProgram_any (s : ByteArray) {w : World} (hs : s.size ≤ 1048576) (hd : Dw w) (hw : Sw w) :
    Calls Tryz.prog 6 #[.string s] w fun e w' => ∃ (n ln code : Int) (v : Value) (os : List (List Int)), e = .returned (.tuple #[.int .i64 n, v, .int .i64 ln, .int .i64 code]) ∧ OwT 8 38 w' w.heap.size w'.heap.size v os ∧ RdP s n os ln code ∧ os.length ≤ 1500 ∧ Below w.heap.size w w' := by
  obtain ⟨mx, hm⟩ := hw
  obtain ⟨hsp, h2, h3⟩ := splitB_sp 10 s { data := #[10] } rfl
  obtain ⟨ls, hps⟩ : ∃ ls, ls = Lib.splitB { data := #[10] } 0 (Lib.countB s { data := #[10] }) s := ⟨_, rfl⟩
  have HS := Tryz.strings_Split s { data := #[10] } mx w (by omega) hm (by decide)
  rw [← hps] at hsp h2 HS
  rw [← h2] at HS
  have hlen : ls.length ≤ s.size + 1 := by omega
  have HS0 := Lib.hid HS
  have HD := Lib.hid hd
  have HSW : Hid (Sw w) := Lib.hid ⟨mx, hm⟩
  clear HS h2 h3 hps hm hd
  go_enter Tryz.func6, Tryz.ntmps6
  go_wp2_with fail
  refine HS0.out.mono ?_
  rintro e w1 ⟨rfl, hw1⟩
  have hq : Below w.heap.size w w1 := by rw [hw1]; exact al1 _ _
  have hhp : w1.heap[w.heap.size]? = some (.cells ((ls.map Value.string).toArray) 9) := by rw [hw1]; exact alloc_at_ _ _
  obtain ⟨g, hgd⟩ : ∃ g, g = w.heap.size := ⟨_, rfl⟩
  obtain ⟨off, hof⟩ : ∃ off : Nat, off = 0 := ⟨_, rfl⟩
  obtain ⟨c, hcd⟩ : ∃ c, c = ls.length := ⟨_, rfl⟩
  have hg : g < w1.heap.size := by rw [hgd]; exact heap_lt hhp
  have hlc : ls.length ≤ c := by omega
  have hcm : c ≤ maxLen := by simp only [maxLen]; omega
  have hcl : ∀ k, k < ls.length → w1.cell? ⟨g, off + k, none⟩ = some (.string (gs ls k)) := fun k hk => by rw [hgd, hof, Nat.zero_add]; exact (cell_of_row w1 w.heap.size k _ 9 (0, 0) hhp).trans (by rw [gs_eq hk]; simp [hk])
  rw [show (.slice (some ⟨w.heap.size, 0, none⟩) ls.length ls.length : Value) = .slice (some ⟨g, off, none⟩) ls.length c by rw [hgd, hof, hcd]]
  clear hw1 hhp hcd hgd hof HS0
  have HSP := Lib.hid hsp
  have HB1 := Lib.hid hq
  have hne : 0 < ls.length := by
    have := hsp.ne
    cases ls with
    | nil => simp [bl_] at this
    | cons a l => simp
  obtain ⟨last, hll⟩ : ∃ last, ls.length = last + 1 := ⟨ls.length - 1, by omega⟩
  have HCL : Hid (∀ k, k < ls.length → w1.cell? ⟨g, off + k, none⟩ = some (.string (gs ls k)) ∧ (gs ls k).size ≤ s.size) := Lib.hid fun k hk => ⟨hcl k hk, gs_size hsp hk⟩
  have q0 := (HCL.out 0 hne).1
  rw [Nat.add_zero] at q0
  have hneI : (0 : Int) < (ls.length : Int) := by omega
  have hwr : IntKind.i64.wrap ((ls.length : Int) - 1) = (last : Int) := wrap_ (by omega) (by omega)
  clear hsp hq hcl
  by_cases hbig : 1501 < last
  · have hbigI : (1501 : Int) < (last : Int) := by omega
    have HR : Hid (RdP s 0 [] 0 5) := Lib.hid ⟨ls, HSP.out, .inl ⟨by omega, rfl, rfl, rfl, rfl⟩⟩
    go_wp2_with fail
    try simp only [Exit.inBlock, Exit.then]
    refine bodyPost_ret (results_tmp4 rfl _ _ _) rfl ?_
    exact ⟨_, _, _, _, [], rfl, OwT.nil _ _ _ _ _, HR.out, by simp, HB1.out⟩
  · have hbigI : ¬ ((1501 : Int) < (last : Int)) := by omega
    have hx0 := (HCL.out 0 hne).2
    obtain ⟨W, hW⟩ : ∃ W, W = widC (gs ls 0) := ⟨_, rfl⟩
    have HWD := Lib.hid hW
    have hWr := widC_rng_ (gs ls 0)
    rw [← hW] at hWr
    go_wp2_with fail
    refine (readWidth_any _ (by omega) (HD.out.below HB1.out)).mono ?_
    rintro e w2 ⟨n0, ok, rfl, hn, hq⟩
    rw [← hW] at hn
    have HB2 := Lib.hid (HB1.out.trans (hq.mono HB1.out.size))
    have hg2 : g < w2.heap.size := Nat.lt_of_lt_of_le hg hq.size
    have HCL2 : Hid (∀ k, k < ls.length → w2.cell? ⟨g, off + k, none⟩ = some (.string (gs ls k)) ∧ (gs ls k).size ≤ s.size) := Lib.hid fun k hk => ⟨(hq.cell hg).trans (HCL.out k hk).1, (HCL.out k hk).2⟩
    have hz2 := HB2.out.size
    clear hq HB1 HCL q0 hW hx0
    cases ok
    · have hW0 : W = 0 := by rcases hn with ⟨q, -⟩ | ⟨-, q⟩; cases q; exact q
      have HR : Hid (RdP s 0 [] 1 11) := Lib.hid ⟨ls, HSP.out, .inr (.inl ⟨by omega, .inl (by rw [← HWD.out]; exact hW0), rfl, rfl, rfl, rfl⟩)⟩
      clear hW0 hn
      go_wp2_with fail
      try simp only [Exit.inBlock, Exit.then]
      refine bodyPost_ret (results_tmp4 rfl _ _ _) rfl ?_
      exact ⟨_, _, _, _, [], rfl, OwT.nil _ _ _ _ _, HR.out, by simp, HB2.out⟩
    · obtain ⟨hnW, hW0⟩ : n0 = W ∧ W ≠ 0 := by rcases hn with ⟨-, q1, q2⟩ | ⟨q, -⟩; exact ⟨q1, q2⟩; cases q
      subst hnW
      clear hn
      by_cases hl0 : last = 0
      · subst hl0
        have HR : Hid (RdP s 0 [] 1 11) := Lib.hid ⟨ls, HSP.out, .inr (.inl ⟨by omega, .inr (by omega), rfl, rfl, rfl, rfl⟩)⟩
        go_wp2_with fail
        try simp only [Exit.inBlock, Exit.then]
        refine bodyPost_ret (results_tmp4 rfl _ _ _) rfl ?_
        exact ⟨_, _, _, _, [], rfl, OwT.nil _ _ _ _ _, HR.out, by simp, HB2.out⟩
      · have hl0I : ¬ ((last : Int) = 0) := by omega
        have hl0p : 0 < last := by omega
        have hl0b : ((last : Int) == 0) = false := by simp; omega
        have hW0b : (n0 == 0) = false := by simpa using hW0
        have hc1 : ¬ (c = 1) := by omega
        have hlc2 : last ≤ c := by omega
        have hlI : (1 : Int) ≤ (last : Int) := by omega
        have hl63 : (last : Int) ≤ 1501 := by omega
        have HN0 := Lib.hid (al1 w2 (.cells #[] 38))
        have HE0 : Hid (OwT 8 38 (w2.alloc (.cells #[] 38)) w2.heap.size (w2.alloc (.cells #[] 38)).heap.size (.slice (some ⟨w2.heap.size, 0, none⟩) 0 0) []) := Lib.hid (OwT.none_ 8 _ _)
        go_wp2_with fail
        go_loopw [10, 40] (fun v i wr => ∃ (m : Nat) (os : List (List Int)), m + 1 ≤ last ∧ i = .int .i64 m ∧ OwT 8 38 wr w2.heap.size wr.heap.size v os ∧ LnOk n0 ls m os ∧ Below w2.heap.size w2 wr) (fun _ i _ => last - (intOf i).toNat)
        case atStart => exact ⟨0, [], by omega, rfl, HE0.out, LnOk.nil _ _, HN0.out⟩
        case round =>
          obtain ⟨m, os, hm1, rfl, ho, hln, hb⟩ := hrel
          obtain ⟨j, hjm⟩ : ∃ j, j = m + 1 := ⟨_, rfl⟩
          have HO := Lib.hid ho
          have HLN := Lib.hid hln
          have HB := Lib.hid hb
          have hzr := hb.size
          have HOL := Lib.hid hln.len
          obtain ⟨p, c9, rfl, -⟩ := id (ho.sl (Nat.le_refl _))
          clear ho hln hb HN0 HE0
          by_cases hlt : m + 1 < last
          · have hltI : (m : Int) < ((last - 1 : Nat) : Int) := by omega
            obtain ⟨hc0, hsz⟩ := HCL2.out (m + 1) (by omega)
            obtain ⟨x, hx⟩ : ∃ x, x = gs ls (m + 1) := ⟨_, rfl⟩
            rw [← hx] at hc0 hsz
            have HGX := Lib.hid hx
            have q0 : wr.cell? ⟨g, off + 1 + m, none⟩ = some (.string x) := (HB.out.cell hg2).trans (by rw [Nat.add_assoc, Nat.add_comm 1 m]; exact hc0)
            have hwj : IntKind.i64.wrap ((m : Int) + 2) = (m : Int) + 2 := wrap_ rfl (by omega)
            clear hc0 hx
            have HDW := Lib.hid ((HD.out.below (HB2.out.trans (HB.out.mono hz2))))
            have HSW2 := Lib.hid ((HSW.out.below (HB2.out.trans (HB.out.mono hz2))))
            go_wp2_with fail
            refine (impl_ReadOp_any x (by omega) HDW.out HSW2.out).mono ?_
            rintro e w3 ⟨a0, a1, a2, a3, a4, a5, a6, a7, b, rfl, hr, hq⟩
            have HR := Lib.hid hr
            have hb3 : Below w2.heap.size w2 (w3.alloc (.cells #[.int .i64 a0, .int .i64 a1, .int .i64 a2, .int .i64 a3, .int .i64 a4, .int .i64 a5, .int .i64 a6, .int .i64 a7] 38)) := HB.out.trans ((hq.mono hzr).trans ((al1 w3 _).mono (Nat.le_trans hzr hq.size)))
            have HB3 := Lib.hid hb3
            have HBW := Lib.hid (HB2.out.trans (hb3.mono hz2))
            have HO3 := Lib.hid (HO.out.below (hq.trans ((al1 w3 (.cells #[.int .i64 a0, .int .i64 a1, .int .i64 a2, .int .i64 a3, .int .i64 a4, .int .i64 a5, .int .i64 a6, .int .i64 a7] 38)).mono hq.size)) (Nat.le_refl _))
            have hz3 : wr.heap.size ≤ (w3.alloc (.cells #[.int .i64 a0, .int .i64 a1, .int .i64 a2, .int .i64 a3, .int .i64 a4, .int .i64 a5, .int .i64 a6, .int .i64 a7] 38)).heap.size := Nat.le_trans hq.size (al1 w3 _).size
            obtain ⟨⟨x0, x1, x2, x3, x4, x5, x6, x7⟩, xl⟩ := box8T (alloc_at_ w3 (.cells #[.int .i64 a0, .int .i64 a1, .int .i64 a2, .int .i64 a3, .int .i64 a4, .int .i64 a5, .int .i64 a6, .int .i64 a7] 38))
            have HAT : Hid (OpAt (w3.alloc (.cells #[.int .i64 a0, .int .i64 a1, .int .i64 a2, .int .i64 a3, .int .i64 a4, .int .i64 a5, .int .i64 a6, .int .i64 a7] 38)) w3.heap.size 0 a0 a1 a2 a3 a4 a5 a6 a7) := Lib.hid ⟨x0, x1, x2, x3, x4, x5, x6, x7⟩
            clear hr hq hb3 q0
            cases b
            · have HRP : Hid (RdP s 0 [] ((m : Int) + 2) 11) := Lib.hid ⟨ls, HSP.out, .inr (.inr (.inl ⟨by omega, by rw [← HWD.out]; exact hW0, ⟨m, os, by omega, by rw [← HWD.out]; exact HLN.out, by rw [← HWD.out]; rw [← HGX.out]; exact bad_of_no HR.out, by omega⟩, rfl, rfl, rfl⟩))⟩
              go_wp2_with fail
              try simp only [Exit.inBlock, Exit.then]
              refine bodyPost_ret (results_tmp4 rfl _ _ _) rfl ?_
              first | exact ⟨_, _, _, _, [], rfl, OwT.nil _ _ _ _ _, HRP.out, by simp, HBW.out⟩ | exact ⟨_, _, _, _, rfl, [], OwT.nil _ _ _ _ _, HRP.out, by simp, HBW.out⟩
            · cases hft : (decide (a3 < n0) && decide (a5 < n0))
              · have HRP : Hid (RdP s 0 [] ((m : Int) + 2) 11) := Lib.hid ⟨ls, HSP.out, .inr (.inr (.inl ⟨by omega, by rw [← HWD.out]; exact hW0, ⟨m, os, by omega, by rw [← HWD.out]; exact HLN.out, by rw [← HWD.out]; rw [← HGX.out]; exact bad_of_fit HR.out hft, by omega⟩, rfl, rfl, rfl⟩))⟩
                by_cases h3 : a3 < n0
                · have h5 : ¬ (a5 < n0) := by intro q; simp [h3, q] at hft
                  have h5I : n0 ≤ a5 := by omega
                  have h3I : ¬ (n0 ≤ a3) := by omega
                  clear hft
                  go_wp2_with fail
                  try simp only [Exit.inBlock, Exit.then]
                  refine bodyPost_ret (results_tmp4 rfl _ _ _) rfl ?_
                  first | exact ⟨_, _, _, _, [], rfl, OwT.nil _ _ _ _ _, HRP.out, by simp, HBW.out⟩ | exact ⟨_, _, _, _, rfl, [], OwT.nil _ _ _ _ _, HRP.out, by simp, HBW.out⟩
                · have h3I : n0 ≤ a3 := by omega
                  clear hft
                  go_wp2_with fail
                  try simp only [Exit.inBlock, Exit.then]
                  refine bodyPost_ret (results_tmp4 rfl _ _ _) rfl ?_
                  first | exact ⟨_, _, _, _, [], rfl, OwT.nil _ _ _ _ _, HRP.out, by simp, HBW.out⟩ | exact ⟨_, _, _, _, rfl, [], OwT.nil _ _ _ _ _, HRP.out, by simp, HBW.out⟩
              · have HLN2 : Hid (LnOk n0 ls (m + 1) (os ++ [[a0, a1, a2, a3, a4, a5, a6, a7]])) := Lib.hid (HLN.out.snoc (o := [a0, a1, a2, a3, a4, a5, a6, a7]) (by rw [← HGX.out]; exact HR.out) hft)
                have h3 : a3 < n0 := by simp only [Bool.and_eq_true, decide_eq_true_eq] at hft; exact hft.1
                have h5 : a5 < n0 := by simp only [Bool.and_eq_true, decide_eq_true_eq] at hft; exact hft.2
                have h3I : ¬ (n0 ≤ a3) := by omega
                have h5I : ¬ (n0 ≤ a5) := by omega
                clear hft
                go_wp2_with (at_builtin; refine wpList_append_o1 rfl _ _ rfl _ _ _ _ os a0 a1 a2 a3 a4 a5 a6 a7 rfl rfl (by simp) HO3.out (by have := HB3.out.size; exact this) (by have := HOL.out; omega) ?_; intro v2 w5 hO5 hg5; obtain ⟨zs, hzs⟩ : ∃ zs, zs = os ++ [[a0, a1, a2, a3, a4, a5, a6, a7]] := ⟨_, rfl⟩; rw [← hzs] at hO5; have HZS := Lib.hid hzs; clear hzs; obtain ⟨p5, c5, rfl, -⟩ := id (hO5.sl (Nat.le_refl _)); have HO5 := Lib.hid hO5; have HB5 := Lib.hid (HB3.out.trans (HO3.out.1.grown hg5 (Nat.le_refl _) (by have := HB3.out.size; exact this))); clear hO5 hg5)
                any_goals (exfalso; omega)
                go_roundw
                case rel => exact ⟨m + 1, zs, by omega, by go_num, HO5.out, by rw [HZS.out]; exact HLN2.out, HB5.out⟩
                case measure => simp [intOf]; omega
          · obtain rfl : last = m + 1 := by omega
            obtain ⟨hc0, -⟩ := HCL2.out (m + 1) (by omega)
            obtain ⟨x, hx⟩ : ∃ x, x = gs ls (m + 1) := ⟨_, rfl⟩
            rw [← hx] at hc0
            have HGX := Lib.hid hx
            have q0 : wr.cell? ⟨g, off + (m + 1), none⟩ = some (.string x) := (HB.out.cell hg2).trans hc0
            have HBW := Lib.hid (HB2.out.trans (HB.out.mono hz2))
            have HLE : Hid (LnOk n0 ls (ls.length - 2) os) := Lib.hid (by rw [show ls.length - 2 = m by omega]; exact HLN.out)
            have HOE := Lib.hid (HO.out.mono hz2 (Nat.le_refl _))
            clear hc0 hx
            by_cases he : x = { data := #[] }
            · have HRP : Hid (RdP s n0 os 0 0) := Lib.hid ⟨ls, HSP.out, .inr (.inr (.inr (.inr ⟨by omega, by omega, by rw [← HWD.out]; exact hW0, by rw [← HWD.out]; exact HLE.out, by rw [show ls.length - 1 = (m + 1) by omega, ← HGX.out]; exact he, HWD.out, rfl, rfl⟩)))⟩
              have hcmp : x.toList.isEmpty = true := by rw [he, ByteArray.toList_eq]; rfl
              clear he
              go_wp2_with fail
              try simp only [Exit.inBlock, Exit.then]
              refine bodyPost_ret (results_tmp4 rfl _ _ _) rfl ?_
              exact ⟨_, _, _, _, os, rfl, HOE.out, HRP.out, by have := HOL.out; omega, HBW.out⟩
            · have HRP : Hid (RdP s 0 [] (((m : Int) + 1) + 1) 11) := Lib.hid ⟨ls, HSP.out, .inr (.inr (.inr (.inl ⟨by omega, by omega, by rw [← HWD.out]; exact hW0, ⟨os, by rw [← HWD.out]; exact HLE.out⟩, by rw [show ls.length - 1 = (m + 1) by omega, ← HGX.out]; exact he, rfl, rfl, by omega, rfl⟩)))⟩
              have hcmp : x.toList.isEmpty = false := ne_emp (Nat.pos_of_ne_zero fun q => he (ba_empty q))
              have hwj : IntKind.i64.wrap (((m : Int) + 1) + 1) = ((m : Int) + 1) + 1 := wrap_ rfl (by omega)
              clear he
              go_wp2_with fail
              try simp only [Exit.inBlock, Exit.then]
              refine bodyPost_ret (results_tmp4 rfl _ _ _) rfl ?_
              exact ⟨_, _, _, _, [], rfl, OwT.nil _ _ _ _ _, HRP.out, by simp, HBW.out⟩
end Go.Proofs.YtgmppfhokfifgaaGreatDoor
