/-
  Contracts: the width's line (l08Width of the reference, readWidth of the program); append of an operation.
-/
import Derived.Test.YtgmppfhokfifgaaGreatDoorTya
import Derived.Test.YtgmppfhokfifgaaGreatDoorScp
namespace Go.Proofs.YtgmppfhokfifgaaGreatDoor
set_option maxRecDepth 10000
open Go.RowKit Go.Sort
set_option linter.unusedSimpArgs false

theorem wid_list : widB.toList = [119, 105, 100, 116, 104, 32] := by rw [ByteArray.toList_eq]; rfl
theorem widC_small {x : ByteArray} (h : x.size < 7) : widC x = 0 := by
  by_cases e : widB ++ x.extract 6 x.size = x
  · refine widC_num e ?_
    have : (x.extract 6 x.size).size = 0 := by rw [ByteArray.size_extract]; omega
    rw [ba_empty this, numC_empty]
  · exact widC_no e
theorem widC_head {x : ByteArray} (h : x.extract 0 6 ≠ widB) : widC x = 0 := by
  refine widC_no fun e => h ?_
  have := head_app widB (x.extract 6 x.size)
  rw [e] at this
  exact this
theorem wid_cut {x : ByteArray} (h : x.extract 0 6 = widB) : widB ++ x.extract 6 x.size = x := by
  have := cut_app x 6
  rwa [h] at this
set_option maxHeartbeats 3200000 in
theorem l08Width_any (x : ByteArray) (w : World) (hs : x.size ≤ 1048576) : Calls Tryz.prog 20 #[.string x] w fun e w' => e = .returned (.int .i64 (widC x)) ∧ Below w.heap.size w w' := by
  by_cases h7 : x.size < 7
  · have HW := Lib.hid (widC_small h7)
    have h7I : (x.size : Int) < 7 := by omega
    go_enter Tryz.func20, Tryz.ntmps20
    go_wp2_with fail
    go_ret
    rw [HW.out]
    exact ⟨rfl, Below.refl _ _⟩
  · have h7I : ¬ ((x.size : Int) < 7) := by omega
    have h6 : 6 ≤ x.size := by omega
    have h6I : (6 : Int) ≤ (x.size : Int) := by omega
    by_cases hh : x.extract 0 6 = widB
    · have HC := Lib.hid (wid_cut hh)
      have hcA : (x.extract 0 6).toList = [119, 105, 100, 116, 104, 32] := by rw [hh]; exact wid_list
      have hcA2 : ((x.extract 0 6).toList == [119, 105, 100, 116, 104, 32]) = true := by rw [hcA]; rfl
      obtain ⟨m, mok, hM⟩ : ∃ a ok, numC (x.extract 6 x.size) = (a, ok) := ⟨_, _, rfl⟩
      have HM1 : Hid ((numC (x.extract 6 x.size)).1 = m) := Lib.hid (by rw [hM])
      have HM2 : Hid ((numC (x.extract 6 x.size)).2 = mok) := Lib.hid (by rw [hM])
      have HNU : Hid (∀ W : World, Calls Tryz.prog 37 #[.string (x.extract 6 x.size)] W fun e w' => e = .returned (.tuple #[.int .i64 m, .bool mok]) ∧ Below W.heap.size W w') := Lib.hid fun W => by
        have := l01Number_any (x.extract 6 x.size) W (by rw [ByteArray.size_extract]; omega)
        rw [hM] at this
        exact this
      clear hM hh h6
      cases mok
      · have HW := Lib.hid (widC_num HC.out HM2.out)
        go_enter Tryz.func20, Tryz.ntmps20
        go_wp2_with fail
        refine (HNU.out _).mono ?_
        rintro e w1 ⟨rfl, hq⟩
        have HB := Lib.hid hq
        clear hq
        go_wp2_with fail
        go_ret
        rw [HW.out]
        exact ⟨rfl, HB.out⟩
      · cases hr : inR m 1 24
        · have HW := Lib.hid (widC_rng HC.out (by rw [HM1.out]; intro q; rw [inR_iff.2 q] at hr; cases hr))
          have HL := Lib.hid (fun W : World => is_same hr (l00In_any m 1 24 W))
          clear hr
          go_enter Tryz.func20, Tryz.ntmps20
          go_wp2_with fail
          refine (HNU.out _).mono ?_
          rintro e w1 ⟨rfl, hq⟩
          have HB := Lib.hid hq
          clear hq
          go_wp2_with fail
          refine (HL.out _).mono ?_
          rintro e w2 ⟨rfl, rfl⟩
          go_wp2_with fail
          go_ret
          rw [HW.out]
          exact ⟨rfl, HB.out⟩
        · have HW := Lib.hid (widC_yes HC.out HM2.out (by rw [HM1.out]; exact inR_iff.1 hr))
          have HL := Lib.hid (fun W : World => is_same hr (l00In_any m 1 24 W))
          clear hr
          go_enter Tryz.func20, Tryz.ntmps20
          go_wp2_with fail
          refine (HNU.out _).mono ?_
          rintro e w1 ⟨rfl, hq⟩
          have HB := Lib.hid hq
          clear hq
          go_wp2_with fail
          refine (HL.out _).mono ?_
          rintro e w2 ⟨rfl, rfl⟩
          go_wp2_with fail
          go_ret
          rw [HW.out, HM1.out]
          exact ⟨rfl, HB.out⟩
    · have HW := Lib.hid (widC_head hh)
      have hcA : ¬ ((x.extract 0 6).toList = [119, 105, 100, 116, 104, 32]) := fun q => hh (tl_inj (q.trans wid_list.symm))
      have hcA2 : ((x.extract 0 6).toList == [119, 105, 100, 116, 104, 32]) = false := by rw [beq_eq_false_iff_ne]; exact hcA
      clear hh h6
      go_enter Tryz.func20, Tryz.ntmps20
      go_wp2_with fail
      go_ret
      rw [HW.out]
      exact ⟨rfl, Below.refl _ _⟩
set_option maxHeartbeats 3200000 in
theorem readWidth_any (x : ByteArray) {w : World} (hs : x.size ≤ 1048576) (hd : Dw w) : Calls Tryz.prog 24 #[.string x] w fun e w' => ∃ n ok, e = .returned (.tuple #[.int .i64 n, .bool ok]) ∧ ((ok = true ∧ n = widC x ∧ widC x ≠ 0) ∨ (ok = false ∧ widC x = 0)) ∧ Below w.heap.size w w' := by
  obtain ⟨t, ht⟩ : ∃ t : ByteArray, t = ⟨(Lib.trimPrefix x.data.toList widB.data.toList).toArray⟩ := ⟨_, rfl⟩
  obtain ⟨fd, hfd⟩ : ∃ fd, fd = Lib.hasPrefix x.data.toList widB.data.toList := ⟨_, rfl⟩
  have HC : Hid (Calls Tryz.prog 43 #[.string x, .string { data := #[119, 105, 100, 116, 104, 32] }] w fun e w' => e = .returned (.tuple #[.string t, .bool fd]) ∧ w' = w) := Lib.hid (by rw [ht, hfd]; exact Tryz.strings_CutPrefix x widB w)
  have htl : t.data.toList = Lib.trimPrefix x.data.toList widB.data.toList := by rw [ht]
  have hts : t.size ≤ 1048576 := by
    rw [← tl_len_, htl]
    have : (Lib.trimPrefix x.data.toList widB.data.toList).length ≤ x.data.toList.length := by
      unfold Lib.trimPrefix
      split
      · rw [List.length_drop]; omega
      · exact Nat.le_refl _
    rw [tl_len_] at this
    omega
  have HP : Hid ((fd = true → widB ++ t = x) ∧ (fd = false → widC x = 0)) := Lib.hid (by
    refine ⟨fun q => ?_, fun q => ?_⟩
    · rw [q] at hfd
      apply ba_ext
      rw [app_list, htl]
      unfold Lib.trimPrefix
      have hp : widB.data.toList <+: x.data.toList := by
        have h := hfd.symm
        unfold Lib.hasPrefix at h
        exact List.isPrefixOf_iff_prefix.1 h
      obtain ⟨r, hr⟩ := hp
      rw [if_pos (by first | exact hfd.symm | simpa [Lib.hasPrefix] using hfd.symm), ← hr, List.drop_left]
    · refine widC_no fun e => ?_
      rw [q] at hfd
      have h2 : Lib.hasPrefix x.data.toList widB.data.toList = true := by
        unfold Lib.hasPrefix
        rw [List.isPrefixOf_iff_prefix]
        exact ⟨_, by rw [← app_list, e]⟩
      rw [h2] at hfd
      cases hfd)
  obtain ⟨m, mok, hM⟩ : ∃ a ok, numC t = (a, ok) := ⟨_, _, rfl⟩
  have HM1 : Hid ((numC t).1 = m) := Lib.hid (by rw [hM])
  have HM2 : Hid ((numC t).2 = mok) := Lib.hid (by rw [hM])
  have HNU : Hid (Calls Tryz.prog 44 #[.string t] w fun e w' => e = .returned (.tuple #[.int .i64 m, .bool mok]) ∧ Below w.heap.size w w') := Lib.hid (by
    have := ReadDecimal_any t hts hd
    rw [hM] at this
    exact this)
  clear hM ht hfd htl hd
  have HWR : Hid ((inR m 1 24 = true → widC x = m ∧ widC x ≠ 0) ∨ mok = false ∨ fd = false) := Lib.hid (by
    cases mok
    · exact .inr (.inl rfl)
    cases fd
    · exact .inr (.inr rfl)
    · refine .inl fun q => ?_
      have h := widC_yes (HP.out.1 rfl) HM2.out (by rw [HM1.out]; exact inR_iff.1 q)
      have h2 := (inR_iff.1 q).1
      rw [h, HM1.out]
      exact ⟨rfl, by omega⟩)
  cases fd
  · have HW := Lib.hid (HP.out.2 rfl)
    go_enter Tryz.func24, Tryz.ntmps24
    go_wp2_with fail
    refine HC.out.mono ?_
    rintro e w1 ⟨rfl, hw⟩
    subst hw
    go_wp2_with fail
    refine HNU.out.mono ?_
    rintro e w2 ⟨rfl, hq⟩
    have HB := Lib.hid hq
    clear hq
    go_wp2_with fail
    go_ret2
    exact ⟨_, _, rfl, .inr ⟨rfl, HW.out⟩, HB.out⟩
  · cases mok
    · have HW := Lib.hid (widC_num (HP.out.1 rfl) HM2.out)
      go_enter Tryz.func24, Tryz.ntmps24
      go_wp2_with fail
      refine HC.out.mono ?_
      rintro e w1 ⟨rfl, hw⟩
      subst hw
      go_wp2_with fail
      refine HNU.out.mono ?_
      rintro e w2 ⟨rfl, hq⟩
      have HB := Lib.hid hq
      clear hq
      go_wp2_with fail
      go_ret2
      exact ⟨_, _, rfl, .inr ⟨rfl, HW.out⟩, HB.out⟩
    · cases hr : inR m 1 24
      · have HW := Lib.hid (widC_rng (HP.out.1 rfl) (by rw [HM1.out]; intro q; rw [inR_iff.2 q] at hr; cases hr))
        have HL := Lib.hid (fun W : World => is_same hr (within_any m 1 24 W))
        clear hr
        go_enter Tryz.func24, Tryz.ntmps24
        go_wp2_with fail
        refine HC.out.mono ?_
        rintro e w1 ⟨rfl, hw⟩
        subst hw
        go_wp2_with fail
        refine HNU.out.mono ?_
        rintro e w2 ⟨rfl, hq⟩
        have HB := Lib.hid hq
        clear hq
        go_wp2_with fail
        refine (HL.out _).mono ?_
        rintro e w3 ⟨rfl, rfl⟩
        go_wp2_with fail
        go_ret2
        exact ⟨_, _, rfl, .inr ⟨rfl, HW.out⟩, HB.out⟩
      · have HW := Lib.hid ((HWR.out.resolve_right (fun q => by rcases q with q | q <;> cases q)) hr)
        have HL := Lib.hid (fun W : World => is_same hr (within_any m 1 24 W))
        clear hr
        go_enter Tryz.func24, Tryz.ntmps24
        go_wp2_with fail
        refine HC.out.mono ?_
        rintro e w1 ⟨rfl, hw⟩
        subst hw
        go_wp2_with fail
        refine HNU.out.mono ?_
        rintro e w2 ⟨rfl, hq⟩
        have HB := Lib.hid hq
        clear hq
        go_wp2_with fail
        refine (HL.out _).mono ?_
        rintro e w3 ⟨rfl, rfl⟩
        go_wp2_with fail
        go_ret2
        exact ⟨_, _, rfl, .inl ⟨rfl, HW.out.1.symm, HW.out.2⟩, HB.out⟩
/-- append of one operation to a row of the call's own. -/
theorem wpList_append_o1 {ops : Array Oper} {rest : List Oper} {o : Oper} {a : Act} {Q : Exit → Act → World → Prop} (hgd : o.guard = none) (s x : Operand)
    (ho : o.op = .call { callee := .builtin .append, args := #[s, x], argTypes := #[22, 22] })
    (w : World) (lo hi : Nat) (v : Value) (os : List (List Int)) (a0 a1 a2 a3 a4 a5 a6 a7 : Int) (hs : a.eval s = v) {b : Nat} (hx : a.eval x = .slice (some ⟨b, 0, none⟩) 1 1) (hb : b = w.heap.size)
    (hown : OwT 8 38 w lo hi v os) (hlo : lo ≤ w.heap.size) (hlen : os.length ≤ 1000000)
    (h : ∀ v' w', OwT 8 38 w' lo w'.heap.size v' (os ++ [[a0, a1, a2, a3, a4, a5, a6, a7]]) → w.grownBy w' v.ownBlock → wpList Tryz.prog ops Q rest (a.put o.dst v') w') :
    wpList Tryz.prog ops Q (o :: rest) a (w.alloc (.cells #[.int .i64 a0, .int .i64 a1, .int .i64 a2, .int .i64 a3, .int .i64 a4, .int .i64 a5, .int .i64 a6, .int .i64 a7] 38)) := by
  subst hb
  refine wpList_append_elem Tryz.underlying22 op_info rfl (by omega) (by omega) hgd s x ho w lo hi v os.length (vals os.flatten) [.int .i64 a0, .int .i64 a1, .int .i64 a2, .int .i64 a3, .int .i64 a4, .int .i64 a5, .int .i64 a6, .int .i64 a7] hs hx hown.1 hlo (by omega) rfl (by simp [Value.oneCell']) ?_
  intro v' w' h1 h2 _
  refine h v' w' ⟨?_, fun r hr => ?_⟩ h2
  · have e : vals (os ++ [[a0, a1, a2, a3, a4, a5, a6, a7]]).flatten = vals os.flatten ++ [.int .i64 a0, .int .i64 a1, .int .i64 a2, .int .i64 a3, .int .i64 a4, .int .i64 a5, .int .i64 a6, .int .i64 a7] := by simp [vals]
    rw [e, List.length_append]
    exact h1
  · rcases List.mem_append.1 hr with hr | hr
    · exact hown.2 r hr
    · simp only [List.mem_singleton] at hr
      subst hr
      rfl
end Go.Proofs.YtgmppfhokfifgaaGreatDoor
