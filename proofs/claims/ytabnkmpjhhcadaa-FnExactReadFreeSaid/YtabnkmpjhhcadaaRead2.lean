/-
  Contract: the reference's ReadFree.
-/
import Derived.Test.YtabnkmpjhhcadaaRead
namespace Go.Proofs.Ytabnkmpjhhcadaa
open Go.RowKit
set_option maxHeartbeats 1600000 in
theorem spec_ReadFree_any (s : ByteArray) (n : Int) (w : World) (hs : s.size ≤ 1048576) :
    Calls Try.prog 25 #[.int .i64 n, .string s] w fun e w' => ∃ r, e = .returned (.tuple #[r, .bool (okRead n s)]) ∧ Ow w' w.heap.size w'.heap.size r (readRes n s) ∧ Below w.heap.size w w' := by
  cases he : s.toList.isEmpty
  · have he1 : ¬ s.toList = [] := fun h => by rw [h] at he; cases he
    by_cases hlen : s.size ≤ 20000
    · cases h1 : (s.toList == [49])
      · have hone : isOne s = false := h1
        have HOK := Lib.hid (show okRead n s = (inR n 0 12 && letters (n + 1) (codesTo s s.size)) by simp [okRead, he, hlen, hone])
        have HON := Lib.hid hone
        clear hone
        go_enter Try.func25, Try.ntmps25
        go_wp2
        have hO := Ow.empty w
        have hb1 : Below w.heap.size w (w.alloc (.cells #[] 2)) := (Below.refl _ _).alloc (Nat.le_refl _) _
        go_loopw [6, 7] (fun o i wr => ∃ k : Nat, k ≤ s.size ∧ i = .int .i64 k ∧ Ow wr w.heap.size wr.heap.size o (codesTo s k) ∧ Below w.heap.size w wr) (fun _ i _ => s.size - (intOf i).toNat)
        case atStart => exact ⟨0, Nat.zero_le _, rfl, hO, hb1⟩
        case round =>
          obtain ⟨k, hk, rfl, hO, hb⟩ := hrel
          by_cases hlt : k < s.size
          · have hsz2 := hb.size
            have HS := Lib.hid (codesTo_snoc s k)
            have HSB := Lib.hid (sb_eq hlt)
            have hl0 : (codesTo s k).length ≤ 1000000000 := by rw [codesTo_len]; omega
            have hb0 : (0 : Int) ≤ (s[k].toNat : Int) := Int.natCast_nonneg _
            have hb255 : (s[k].toNat : Int) ≤ 255 := by have := s[k].toNat_lt; omega
            by_cases c1 : 97 ≤ (s[k].toNat : Int) ∧ (s[k].toNat : Int) ≤ 122
            · obtain ⟨c2, c3⟩ := c1
              have HCD := Lib.hid (cd_small c2 c3)
              go_wp2_with (at_builtin; refine wpList_append_one rfl (.tmp 38) (.tmp 42) rfl _ _ _ _ _ ((s[k].toNat : Int) - 97 + 1) rfl rfl hO hsz2 hl0 ?_; intro v1 w2 hO2 hg2 _)
              have hbw := hO.grown hg2 (Nat.le_refl _) hsz2
              go_roundw
              case rel => exact ⟨k + 1, by omega, by go_num, by rw [HS.out, HSB.out, HCD.out, show (s[k].toNat : Int) - 96 = (s[k].toNat : Int) - 97 + 1 from by omega]; exact hO2, hb.trans hbw⟩
              case measure => simp [intOf]; omega
            · by_cases c4 : 65 ≤ (s[k].toNat : Int) ∧ (s[k].toNat : Int) ≤ 90
              · obtain ⟨c5, c6⟩ := c4
                have c9 : (s[k].toNat : Int) < 97 := by omega
                have HCD := Lib.hid (cd_big c5 c6)
                clear c1
                go_wp2_with (at_builtin; refine wpList_append_one rfl (.tmp 51) (.tmp 55) rfl _ _ _ _ _ (65 - (s[k].toNat : Int) - 1) rfl rfl hO hsz2 hl0 ?_; intro v1 w2 hO2 hg2 _)
                have hbw := hO.grown hg2 (Nat.le_refl _) hsz2
                go_roundw
                case rel => exact ⟨k + 1, by omega, by go_num, by rw [HS.out, HSB.out, HCD.out, show 64 - (s[k].toNat : Int) = 65 - (s[k].toNat : Int) - 1 from by omega]; exact hO2, hb.trans hbw⟩
                case measure => simp [intOf]; omega
              · have hcd := cd_none c1 c4
                have hbad : letters (n + 1) (codesTo s s.size) = false := letters_false (j := k) (by rw [codesTo_len]; exact hlt) (by rw [codesTo_gi s _ _ hlt, sb_eq hlt, hcd]; exact badLetter_yes (.inl rfl))
                have hno : okRead n s = false := by rw [HOK.out, hbad, Bool.and_false]
                have HK := Lib.hid hno
                have HR := Lib.hid (readRes_no hno)
                clear hcd hbad hno
                rcases (show ((s[k].toNat : Int) < 65 ∧ (s[k].toNat : Int) < 97) ∨ (65 ≤ (s[k].toNat : Int) ∧ 90 < (s[k].toNat : Int) ∧ (s[k].toNat : Int) < 97) ∨ (97 ≤ (s[k].toNat : Int) ∧ 122 < (s[k].toNat : Int) ∧ 65 ≤ (s[k].toNat : Int) ∧ 90 < (s[k].toNat : Int)) from by omega) with ⟨c7, c8⟩ | ⟨c7, c8, c9⟩ | ⟨c7, c8, c9, c10⟩
                all_goals
                  clear c1 c4
                  go_wp2
                  go_ret2
                  exact ⟨_, by rw [HK.out]; rfl, by rw [HR.out]; exact Ow.nil _ _ _, hb⟩
          · obtain rfl : k = s.size := by omega
            have HOF := Lib.hid (show okFree n (codesTo s s.size) = okRead n s by rw [HOK.out, okFree, codesTo_len]; simp [hlen])
            cases hokr : okRead n s
            · have hof : okFree n (codesTo s s.size) = false := HOF.out.trans hokr
              have HR := Lib.hid (readRes_no hokr)
              go_wp2_with (go_at_call 32; refine (l05Ok_any _ _ _ _ _ (hO.sl (Nat.le_refl _))).mono ?_; rintro e w3 ⟨rfl, rfl⟩)
              go_ret2
              exact ⟨_, by rw [hokr]; rfl, by rw [HR.out]; exact Ow.nil _ _ _, hb⟩
            · have hof : okFree n (codesTo s s.size) = true := HOF.out.trans hokr
              have HR := Lib.hid (show readRes n s = codesTo s s.size by simp [readRes, hokr, HON.out])
              go_wp2_with (go_at_call 32; refine (l05Ok_any _ _ _ _ _ (hO.sl (Nat.le_refl _))).mono ?_; rintro e w3 ⟨rfl, rfl⟩)
              go_ret2
              exact ⟨_, by rw [hokr]; rfl, by rw [HR.out]; exact hO, hb⟩
      · have hone : isOne s = true := h1
        have HOF := Lib.hid (show okFree n [] = okRead n s by simp [okFree, okRead, he, hlen, hone, letters])
        have HR := Lib.hid (show readRes n s = [] by simp [readRes, hone])
        clear hone
        have h1n : (s.toList != [49]) = false := by simp [bne, h1]
        go_enter Try.func25, Try.ntmps25
        go_wp2
        have hO := Ow.empty w
        cases hokr : okRead n s
        · have hof : okFree n [] = false := HOF.out.trans hokr
          refine wp_loop_rounds 1 ?_
          rw [rounds_succ]
          go_wp2_with (go_at_call 32; refine (l05Ok_any _ [] _ _ _ (hO.sl (Nat.le_refl _))).mono ?_; rintro e w3 ⟨rfl, rfl⟩)
          all_goals (go_ret2; exact ⟨_, by rw [hokr]; rfl, by rw [HR.out]; exact Ow.nil _ _ _, (Below.refl _ _).alloc (Nat.le_refl _) _⟩)
        · have hof : okFree n [] = true := HOF.out.trans hokr
          refine wp_loop_rounds 1 ?_
          rw [rounds_succ]
          go_wp2_with (go_at_call 32; refine (l05Ok_any _ [] _ _ _ (hO.sl (Nat.le_refl _))).mono ?_; rintro e w3 ⟨rfl, rfl⟩)
          all_goals (go_ret2; exact ⟨_, by rw [hokr]; rfl, by rw [HR.out]; exact hO, (Below.refl _ _).alloc (Nat.le_refl _) _⟩)
    · have hok : okRead n s = false := by simp [okRead, hlen]
      have HF := Lib.hid (readRes_no hok)
      have HK := Lib.hid hok
      clear hok
      go_enter Try.func25, Try.ntmps25
      go_wp2
      all_goals (go_ret2; exact ⟨_, by rw [HK.out]; rfl, by rw [HF.out]; exact Ow.nil _ _ _, (Below.refl _ _).alloc (Nat.le_refl _) _⟩)
  · have he1 : s.toList = [] := List.isEmpty_iff.1 he
    have hok : okRead n s = false := by simp [okRead, he]
    have HF := Lib.hid (readRes_no hok)
    have HK := Lib.hid hok
    clear hok
    go_enter Try.func25, Try.ntmps25
    go_wp2
    all_goals (go_ret2; exact ⟨_, by rw [HK.out]; rfl, by rw [HF.out]; exact Ow.nil _ _ _, (Below.refl _ _).alloc (Nat.le_refl _) _⟩)
end Go.Proofs.Ytabnkmpjhhcadaa
