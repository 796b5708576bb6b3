/-
  Contracts: ReadFree, of the program and of the reference.
-/
import Derived.Test.YtcoocjdkppdlmaaWord
namespace Go.Proofs.Ytcoocjdkppdlmaa
set_option maxRecDepth 10000
open Go.RowKit

/-- Byte k of a string. -/
def sb (s : ByteArray) (k : Nat) : Int := if h : k < s.size then (s[k].toNat : Int) else 0
theorem sb_eq {s : ByteArray} {k : Nat} (h : k < s.size) : sb s k = (s[k].toNat : Int) := dif_pos h
/-- The letter that a byte stands for; 0 where it stands for none. -/
def cd (c : Int) : Int := if 97 ≤ c ∧ c ≤ 122 then c - 96 else if 65 ≤ c ∧ c ≤ 90 then 64 - c else 0
theorem cd_small {c : Int} (h1 : 97 ≤ c) (h2 : c ≤ 122) : cd c = c - 96 := if_pos ⟨h1, h2⟩
theorem cd_big {c : Int} (h1 : 65 ≤ c) (h2 : c ≤ 90) : cd c = 64 - c := by unfold cd; rw [if_neg (by omega), if_pos ⟨h1, h2⟩]
theorem cd_none {c : Int} (h1 : ¬ (97 ≤ c ∧ c ≤ 122)) (h2 : ¬ (65 ≤ c ∧ c ≤ 90)) : cd c = 0 := by unfold cd; rw [if_neg h1, if_neg h2]
def codesTo (s : ByteArray) (k : Nat) : List Int := (List.range k).map fun j => cd (sb s j)
theorem codesTo_len (s : ByteArray) (k : Nat) : (codesTo s k).length = k := by simp [codesTo]
theorem codesTo_snoc (s : ByteArray) (k : Nat) : codesTo s (k + 1) = codesTo s k ++ [cd (sb s k)] := by simp [codesTo, List.range_succ]
theorem codesTo_gi (s : ByteArray) (k j : Nat) (h : j < k) : gi (codesTo s k) j = cd (sb s j) := by rw [gi_eq (by rw [codesTo_len]; exact h)]; simp [codesTo]
def isOne (s : ByteArray) : Bool := s.toList == [49]
def okRead (n : Int) (s : ByteArray) : Bool := inR n 0 12 && !s.toList.isEmpty && decide (s.size ≤ 20000) && (isOne s || letters (n + 1) (codesTo s s.size))
def readRes (n : Int) (s : ByteArray) : List Int := if okRead n s = true then (if isOne s = true then [] else codesTo s s.size) else []
theorem readRes_no {n : Int} {s : ByteArray} (h : okRead n s = false) : readRes n s = [] := by simp [readRes, h]

theorem readRes_len (n : Int) (s : ByteArray) : (readRes n s).length ≤ s.size := by
  unfold readRes; split
  · split
    · simp
    · rw [codesTo_len]; exact Nat.le_refl _
  · simp
set_option maxHeartbeats 400000 in
theorem isSmall_any (c : Int) (w : World) :
    Calls Try.prog 78 #[.int .u8 c] w fun e w' => e = .returned (.bool (inR c 97 122)) ∧ w = w' := by
  go_enter Try.func78, Try.ntmps78
  go_wp2
  all_goals (go_ret; exact ⟨ret_bool (by simp_all [inR] <;> omega), rfl⟩)

set_option maxHeartbeats 1600000 in
theorem impl_ReadFree_any (s : ByteArray) (n : Int) (w : World) (hs : s.size ≤ 1048576) :
    Calls Try.prog 41 #[.int .i64 n, .string s] w fun e w' => ∃ r, e = .returned (.tuple #[r, .bool (okRead n s)]) ∧ Ow w' w.heap.size w'.heap.size r (readRes n s) ∧ Below w.heap.size w w' := by
  cases hn : inR n 0 12
  · have hok : okRead n s = false := by simp [okRead, hn]
    have HF := Lib.hid (readRes_no hok)
    have HK := Lib.hid hok
    clear hok
    go_enter Try.func41, Try.ntmps41
    go_wp2_with (go_at_call 77; refine (isStrands_any _ _).mono ?_; rintro e w1 ⟨rfl, rfl⟩)
    go_ret2
    exact ⟨_, by rw [HK.out]; rfl, by rw [HF.out]; exact Ow.nil _ _ _, Below.refl _ _⟩
  · obtain ⟨n0, n1⟩ := inR_iff.1 hn
    cases he : s.toList.isEmpty
    · have he1 : ¬ s.toList = [] := fun h => by rw [h] at he; cases he
      by_cases hlen : s.size ≤ 20000
      · cases h1 : (s.toList == [49])
        · have hone : isOne s = false := h1
          have HOK := Lib.hid (show okRead n s = letters (n + 1) (codesTo s s.size) by simp [okRead, hn, he, hlen, hone])
          have HON := Lib.hid hone
          clear hone
          go_enter Try.func41, Try.ntmps41
          go_wp2_with (go_at_call 77; refine (isStrands_any _ _).mono ?_; rintro e w1 ⟨rfl, rfl⟩)
          have hO := Ow.empty w
          have hb1 : Below w.heap.size w (w.alloc (.cells #[] 2)) := (Below.refl _ _).alloc (Nat.le_refl _) _
          go_loopw [6, 7] (fun o i wr => ∃ k : Nat, k ≤ s.size ∧ i = .int .i64 k ∧ Ow wr w.heap.size wr.heap.size o (codesTo s k) ∧ Below w.heap.size w wr) (fun _ i _ => s.size - (intOf i).toNat)
          case atStart => exact ⟨0, Nat.zero_le _, rfl, hO, hb1⟩
          case round =>
            obtain ⟨k, hk, rfl, hO, hb⟩ := hrel
            by_cases hlt : k < s.size
            · have hsz2 := hb.size
              have HS := Lib.hid (codesTo_snoc s k)
              have HSB := Lib.hid (sb_eq hlt)
              have hl0 : (codesTo s k).length ≤ 1000000000 := by rw [codesTo_len]; omega
              have hb0 : (0 : Int) ≤ (s[k].toNat : Int) := Int.natCast_nonneg _
              have hb255 : (s[k].toNat : Int) ≤ 255 := by have := s[k].toNat_lt; omega
              by_cases c1 : 97 ≤ (s[k].toNat : Int) ∧ (s[k].toNat : Int) ≤ 122
              · obtain ⟨c2, c3⟩ := c1
                have hin := inR_yes c2 c3
                have HCD := Lib.hid (cd_small c2 c3)
                go_wp2_with (first | (go_at_call 78; refine (isSmall_any _ _).mono ?_; rintro e w1 ⟨rfl, rfl⟩) | (at_builtin; refine wpList_append_one rfl (.tmp 60) (.tmp 62) rfl _ _ _ _ _ ((s[k].toNat : Int) - 97 + 1) rfl rfl hO hsz2 hl0 ?_; intro v1 w2 hO2 hg2 _))
                have hbw := hO.grown hg2 (Nat.le_refl _) hsz2
                go_roundw
                case rel => exact ⟨k + 1, by omega, by go_num, by rw [HS.out, HSB.out, HCD.out, show (s[k].toNat : Int) - 96 = (s[k].toNat : Int) - 97 + 1 from by omega]; exact hO2, hb.trans hbw⟩
                case measure => simp [intOf]; omega
              · have hin := inR_no c1
                by_cases c4 : 65 ≤ (s[k].toNat : Int) ∧ (s[k].toNat : Int) ≤ 90
                · obtain ⟨c5, c6⟩ := c4
                  have HCD := Lib.hid (cd_big c5 c6)
                  clear c1
                  go_wp2_with (first | (go_at_call 78; refine (isSmall_any _ _).mono ?_; rintro e w1 ⟨rfl, rfl⟩) | (at_builtin; refine wpList_append_one rfl (.tmp 60) (.tmp 62) rfl _ _ _ _ _ (-((s[k].toNat : Int) - 65) - 1) rfl rfl hO hsz2 hl0 ?_; intro v1 w2 hO2 hg2 _))
                  have hbw := hO.grown hg2 (Nat.le_refl _) hsz2
                  go_roundw
                  case rel => exact ⟨k + 1, by omega, by go_num, by rw [HS.out, HSB.out, HCD.out, show 64 - (s[k].toNat : Int) = -((s[k].toNat : Int) - 65) - 1 from by omega]; exact hO2, hb.trans hbw⟩
                  case measure => simp [intOf]; omega
                · have HCD := Lib.hid (cd_none c1 c4)
                  by_cases c7 : 65 ≤ (s[k].toNat : Int)
                  · have c8 : 90 < (s[k].toNat : Int) := by omega
                    clear c1 c4
                    go_wp2_with (first | (go_at_call 78; refine (isSmall_any _ _).mono ?_; rintro e w1 ⟨rfl, rfl⟩) | (at_builtin; refine wpList_append_one rfl (.tmp 60) (.tmp 62) rfl _ _ _ _ _ 0 rfl rfl hO hsz2 hl0 ?_; intro v1 w2 hO2 hg2 _))
                    have hbw := hO.grown hg2 (Nat.le_refl _) hsz2
                    go_roundw
                    case rel => exact ⟨k + 1, by omega, by go_num, by rw [HS.out, HSB.out, HCD.out]; exact hO2, hb.trans hbw⟩
                    case measure => simp [intOf]; omega
                  · clear c1 c4
                    go_wp2_with (first | (go_at_call 78; refine (isSmall_any _ _).mono ?_; rintro e w1 ⟨rfl, rfl⟩) | (at_builtin; refine wpList_append_one rfl (.tmp 60) (.tmp 62) rfl _ _ _ _ _ 0 rfl rfl hO hsz2 hl0 ?_; intro v1 w2 hO2 hg2 _))
                    have hbw := hO.grown hg2 (Nat.le_refl _) hsz2
                    go_roundw
                    case rel => exact ⟨k + 1, by omega, by go_num, by rw [HS.out, HSB.out, HCD.out]; exact hO2, hb.trans hbw⟩
                    case measure => simp [intOf]; omega
            · obtain rfl : k = s.size := by omega
              cases hlet : letters (n + 1) (codesTo s s.size)
              · have HR := Lib.hid (readRes_no (HOK.out.trans hlet))
                have HK := Lib.hid (HOK.out.trans hlet)
                go_wp2_with (go_at_call 79; refine (areLetters_any _ _ _ _ _ (hO.sl (Nat.le_refl _)) (Nat.le_refl _) (by omega) (by omega)).mono ?_; rintro e w3 ⟨rfl, hb3⟩)
                go_ret2
                exact ⟨_, by rw [HK.out]; rfl, by rw [HR.out]; exact Ow.nil _ _ _, hb.trans (hb3.mono hb.size)⟩
              · have HR := Lib.hid (show readRes n s = codesTo s s.size by simp [readRes, HOK.out.trans hlet, HON.out])
                have HK := Lib.hid (HOK.out.trans hlet)
                go_wp2_with (go_at_call 79; refine (areLetters_any _ _ _ _ _ (hO.sl (Nat.le_refl _)) (Nat.le_refl _) (by omega) (by omega)).mono ?_; rintro e w3 ⟨rfl, hb3⟩)
                go_ret2
                exact ⟨_, by rw [HK.out]; rfl, by rw [HR.out]; exact (hO.below hb3 (Nat.le_refl _)).mono (Nat.le_refl _) hb3.size, hb.trans (hb3.mono hb.size)⟩
        · have hone : isOne s = true := h1
          have hok : okRead n s = true := by simp [okRead, hn, he, hlen, hone]
          have HK := Lib.hid hok
          have HR := Lib.hid (show readRes n s = [] by simp [readRes, hok, hone])
          clear hone hok
          go_enter Try.func41, Try.ntmps41
          go_wp2_with (go_at_call 77; refine (isStrands_any _ _).mono ?_; rintro e w1 ⟨rfl, rfl⟩)
          go_ret2
          exact ⟨_, by rw [HK.out]; rfl, by rw [HR.out]; exact Ow.empty _, (Below.refl _ _).alloc (Nat.le_refl _) _⟩
      · have hok : okRead n s = false := by simp [okRead, hlen]
        have HF := Lib.hid (readRes_no hok)
        have HK := Lib.hid hok
        clear hok
        go_enter Try.func41, Try.ntmps41
        go_wp2_with (go_at_call 77; refine (isStrands_any _ _).mono ?_; rintro e w1 ⟨rfl, rfl⟩)
        all_goals (go_ret2; exact ⟨_, by rw [HK.out]; rfl, by rw [HF.out]; exact Ow.nil _ _ _, Below.refl _ _⟩)
    · have he1 : s.toList = [] := List.isEmpty_iff.1 he
      have hok : okRead n s = false := by simp [okRead, he]
      have HF := Lib.hid (readRes_no hok)
      have HK := Lib.hid hok
      clear hok
      go_enter Try.func41, Try.ntmps41
      go_wp2_with (go_at_call 77; refine (isStrands_any _ _).mono ?_; rintro e w1 ⟨rfl, rfl⟩)
      all_goals (go_ret2; exact ⟨_, by rw [HK.out]; rfl, by rw [HF.out]; exact Ow.nil _ _ _, Below.refl _ _⟩)
end Go.Proofs.Ytcoocjdkppdlmaa
