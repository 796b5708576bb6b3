/-
  Contracts: numbers read from a text (the reference's l01Number, the program's ReadDecimal). Printed by gen_txr.py.
-/
import Derived.Test.YtgmppfhokfifgaaGreatDoorTxn
import Derived.Test.YtgmppfhokfifgaaGreatDoorSpi
namespace Go.Proofs.YtgmppfhokfifgaaGreatDoor
set_option maxRecDepth 10000
open Go.RowKit Go.Sort

theorem tk_succ {t : ByteArray} {k : Nat} (h : k < t.size) : t.data.toList.take (k + 1) = t.data.toList.take k ++ [t[k]] := by
  have h1 : k < t.data.toList.length := by rw [Array.length_toList]; exact h
  rw [List.take_succ_eq_append_getElem h1]
  rfl
theorem tl_len_ (t : ByteArray) : t.data.toList.length = t.size := by rw [Array.length_toList]; rfl
theorem tk_mem {t : ByteArray} {k : Nat} (h : k < t.size) : t[k] ∈ t.data.toList := by
  have h1 : k < t.data.toList.length := by rw [Array.length_toList]; exact h
  exact List.getElem_mem h1
theorem ba_empty {s : ByteArray} (h : s.size = 0) : s = { data := #[] } := ByteArray.ext (Array.eq_empty_of_size_eq_zero h)
theorem ne_emp {s : ByteArray} (h : 0 < s.size) : s.toList.isEmpty = false := by
  rw [ByteArray.toList_eq, ← tl_len_] at *
  cases hs : s.data.toList with
  | nil => rw [hs] at h; simp at h
  | cons b r => rfl
theorem str_yes {a b : ByteArray} (h : a = b) : (a.toList == b.toList) = true := by rw [h]; exact beq_self_eq_true _
theorem str_no {a b : ByteArray} (h : a ≠ b) : (a.toList == b.toList) = false := by
  rw [beq_eq_false_iff_ne, ByteArray.toList_eq, ByteArray.toList_eq]
  exact fun q => h (ba_ext q)
theorem numC_empty : numC { data := #[] } = (0, false) := numC_no fun m _ e => by
  obtain ⟨b, r, e2, -⟩ := dig_head m.natAbs
  have e3 := congrArg (fun x : ByteArray => x.data.toList) e
  rcases dec_form m with ⟨-, h2⟩ | ⟨-, h2⟩
  · simp only [h2] at e3; simp at e3
  · simp only [h2, e2] at e3; simp at e3
theorem hd_form {s : ByteArray} (h : 0 < s.size) : s.data.toList = s[0] :: (s.extract 1 s.size).data.toList := by
  have h1 : 0 < s.data.toList.length := by rw [Array.length_toList]; exact h
  have e : (s.extract 1 s.size).data.toList = s.data.toList.drop 1 := by
    rw [ByteArray.data_extract, Array.toList_extract]
    have : s.data.toList.length = s.size := tl_len_ s
    simp only [List.extract]
    rw [List.take_of_length_le (by rw [List.length_drop, this]; exact Nat.le_refl _)]
  rw [e]
  conv => lhs; rw [← List.drop_zero (l := s.data.toList), List.drop_eq_getElem_cons h1]
  rfl
set_option maxHeartbeats 400000 in
theorem l01Digit_any (c : Int) (w : World) : Calls Tryz.prog 67 #[.int .u8 c] w fun e w' => e = .returned (.bool (inR c 48 57)) ∧ w = w' := by
  go_enter Tryz.func67, Tryz.ntmps67
  go_wp2
  all_goals (go_ret; exact ⟨ret_bool (by simp_all [inR] <;> omega), rfl⟩)
/-- What is known of the text t of digits behind the sign of s. -/
structure NumT (s t : ByteArray) (neg : Bool) : Prop where
  form : ∀ m, numOk m → dec m = s → t.data.toList = Lib.decDigits m.natAbs ∧ (neg = true ↔ m < 0)
theorem numT_no {s t : ByteArray} {neg : Bool} (h : NumT s t neg) (hl : t.size < 1 ∨ 9 < t.size) : numC s = (0, false) := by
  refine numC_no fun m hm e => ?_
  obtain ⟨a, -⟩ := h.form m hm e
  have h1 := dig_len (u := m.natAbs) (by unfold numOk at hm; omega)
  have h2 := tl_len_ t
  rw [a] at h2
  omega
theorem numT_dig {s t : ByteArray} {neg : Bool} (h : NumT s t neg) {k : Nat} (hk : k < t.size) (hd : inR (t[k].toNat : Int) 48 57 = false) : numC s = (0, false) := by
  refine numC_no fun m hm e => ?_
  obtain ⟨a, -⟩ := h.form m hm e
  have h1 := tk_mem hk
  rw [a] at h1
  have h2 := dig_all _ _ h1
  rw [inR_yes (by omega) (by omega)] at hd
  cases hd
theorem numT_val {s t : ByteArray} {neg : Bool} (h : NumT s t neg) {v : Int} (hv : v = if neg = true then -(valU t.data.toList : Int) else (valU t.data.toList : Int)) (hne : dec v ≠ s) : numC s = (0, false) := by
  refine numC_no fun m hm e => hne ?_
  obtain ⟨a, b⟩ := h.form m hm e
  rw [a, valU_dec] at hv
  rw [← e]
  congr 1
  cases neg
  · simp only [Bool.false_eq_true, if_false, false_iff] at hv b
    omega
  · simp only [if_true, true_iff] at hv b
    omega
theorem numT_neg {s : ByteArray} (h : 0 < s.size) (h0 : s[0] = 45) : NumT s (s.extract 1 s.size) true := ⟨fun m hm e => by
  have hf := hd_form h
  rcases dec_form m with ⟨h1, h2⟩ | ⟨h1, h2⟩
  · rw [e, hf] at h2
    exact ⟨(List.cons.inj h2).2, by simpa using h1⟩
  · rw [e, hf, h0] at h2
    obtain ⟨b, r, e2, hb⟩ := dig_head m.natAbs
    rw [e2] at h2
    exact absurd (List.cons.inj h2).1.symm hb⟩
theorem numT_pos {s : ByteArray} (h : 0 < s.size) (h0 : s[0] ≠ 45) : NumT s s false := ⟨fun m hm e => by
  have hf := hd_form h
  rcases dec_form m with ⟨h1, h2⟩ | ⟨h1, h2⟩
  · rw [e, hf] at h2
    exact absurd (List.cons.inj h2).1 h0
  · rw [e] at h2
    exact ⟨h2, by simp; omega⟩⟩
set_option maxHeartbeats 6400000 in
theorem l01Number_any (s : ByteArray) (w : World) (hs : s.size ≤ 1048576) : Calls Tryz.prog 37 #[.string s] w fun e w' => e = .returned (.tuple #[.int .i64 (numC s).1, .bool (numC s).2]) ∧ Below w.heap.size w w' := by
  rcases Nat.eq_zero_or_pos s.size with h0 | h0
  · obtain rfl := ba_empty h0
    go_enter Tryz.func37, Tryz.ntmps37
    go_wp2_with fail
    go_ret2
    rw [numC_empty]
    exact ⟨rfl, Below.refl _ _⟩
  · have hne := ne_emp h0
    by_cases h45 : s[0] = 45
    · obtain ⟨t, ht⟩ : ∃ t, t = s.extract 1 s.size := ⟨_, rfl⟩
      have HT := Lib.hid (numT_neg h0 h45)
      have h45i : (s[0].toNat : Int) = 45 := by rw [h45]; rfl
      have hx : t.size = s.size - 1 := by rw [ht, ByteArray.size_extract]; omega
      have hts : (t.size : Int) < (s.size : Int) := by omega
      clear h45
      rw [← ht] at HT
      have HTE := Lib.hid ht
      clear ht
      go_enter Tryz.func37, Tryz.ntmps37
      go_upto_region 4 with fail
      rw [← HTE.out]
      clear hne h45i hx
      by_cases hl : t.size < 1 ∨ 9 < t.size
      · have HN := Lib.hid (numT_no HT.out hl)
        rcases hl with hl | hl
        · go_wp2_with fail
          go_ret2
          rw [HN.out]
          exact ⟨rfl, Below.refl _ _⟩
        · have hlI : (9 : Int) < (t.size : Int) := by omega
          have hlJ : (1 : Int) ≤ (t.size : Int) := by omega
          go_wp2_with fail
          go_ret2
          rw [HN.out]
          exact ⟨rfl, Below.refl _ _⟩
      · have hl1 : 1 ≤ t.size := by omega
        have hl2 : t.size ≤ 9 := by omega
        have hl1I : (1 : Int) ≤ (t.size : Int) := by omega
        have hl2I : (t.size : Int) ≤ 9 := by omega
        clear hl
        have hv0 : valU (t.data.toList.take 0) = 0 := by rw [List.take_zero]; rfl
        go_wp2_with fail
        go_loopw [5, 6] (fun v i wr => ∃ k : Nat, k ≤ t.size ∧ i = .int .i64 k ∧ v = .int .i64 (valU (t.data.toList.take k) : Int) ∧ (∀ b ∈ t.data.toList.take k, b.toNat ≤ 57) ∧ wr = w) (fun _ i _ => t.size - (intOf i).toNat)
        case atStart => exact ⟨0, Nat.zero_le _, rfl, by rw [hv0]; rfl, by simp, rfl⟩
        case round =>
          obtain ⟨k, hk, rfl, rfl, hd, rfl⟩ := hrel
          have HD := Lib.hid hd
          have hvl : valU (t.data.toList.take k) < 1000000000 := Nat.lt_of_lt_of_le (valU_lt _ _ rfl hd) (by
            have : (t.data.toList.take k).length ≤ 9 := by rw [List.length_take]; omega
            exact Nat.le_trans (Nat.pow_le_pow_right (by decide) this) (by decide))
          clear hd hv0
          by_cases hlt : k < t.size
          · have hltI : (k : Int) < (t.size : Int) := by omega
            cases hdg : inR (t[k].toNat : Int) 48 57
            · have HN := Lib.hid (numT_dig HT.out hlt hdg)
              go_wp2_with (go_at_call 67; refine (is_same hdg (l01Digit_any _ _)).mono ?_; rintro e w' ⟨rfl, rfl⟩)
              go_ret2
              rw [HN.out]
              exact ⟨rfl, Below.refl _ _⟩
            · obtain ⟨g0, g1⟩ := inR_iff.1 hdg
              have HV : Hid (valU (t.data.toList.take (k + 1)) = 10 * valU (t.data.toList.take k) + (t[k].toNat - 48)) := Lib.hid (by rw [tk_succ hlt, valU_snoc])
              have HD2 : Hid (∀ b ∈ t.data.toList.take (k + 1), b.toNat ≤ 57) := Lib.hid fun b hb => by
                rw [tk_succ hlt] at hb
                rcases List.mem_append.1 hb with q | q
                · exact HD.out b q
                · simp only [List.mem_singleton] at q
                  subst q
                  omega
              have hv1 : valU (t.data.toList.take (k + 1)) < 1000000000 := Nat.lt_of_lt_of_le (valU_lt _ _ rfl HD2.out) (by
                have : (t.data.toList.take (k + 1)).length ≤ 9 := by rw [List.length_take]; omega
                exact Nat.le_trans (Nat.pow_le_pow_right (by decide) this) (by decide))
              obtain ⟨vk, hvk⟩ : ∃ vk, vk = valU (t.data.toList.take k) := ⟨_, rfl⟩
              obtain ⟨vn, hvn⟩ : ∃ vn, vn = valU (t.data.toList.take (k + 1)) := ⟨_, rfl⟩
              obtain ⟨tk, htk⟩ : ∃ tk : Int, tk = (t[k].toNat : Int) := ⟨_, rfl⟩
              have HE : Hid ((10 * (vk : Int)) + (tk - 48) = (vn : Int)) := Lib.hid (by have := HV.out; omega)
              have hvn9 : vn < 1000000000 := by omega
              rw [← hvk] at hvl ⊢
              have HVN := Lib.hid hvn
              clear hvn HV hv1 hvk
              go_wp2_with (go_at_call 67; refine (is_same hdg (l01Digit_any _ _)).mono ?_; rintro e w' ⟨rfl, rfl⟩)
              go_roundw
              case rel => exact ⟨k + 1, by omega, by go_num, by rw [← HVN.out, ← HE.out, htk], HD2.out, (by first | rfl | trivial)⟩
              case measure => simp [intOf]; omega
          · obtain rfl : k = t.size := by omega
            rw [List.take_of_length_le (by rw [tl_len_]; exact Nat.le_refl _)] at hvl ⊢
            have HC : Hid (∀ v : Int, v = -(valU t.data.toList : Int) → dec v ≠ s → numC s = (0, false)) := Lib.hid fun v hv hne => numT_val HT.out (by rw [hv]; rfl) hne
            generalize valU t.data.toList = vt at *
            have hi : I64 (-(vt : Int)) := by constructor <;> omega
            by_cases hds : dec (-(vt : Int)) = s
            · have HN : Hid (numC s = (-(vt : Int), true)) := Lib.hid (numC_yes hds (by constructor <;> omega))
              have hcmp := str_yes hds
              clear hds
              go_wp2_with fail
              refine (l01Dec_any hi _).mono ?_
              rintro e w1 ⟨rfl, hq⟩
              go_wp2_with fail
              go_ret2
              rw [HN.out]
              exact ⟨rfl, hq⟩
            · have HN := Lib.hid (HC.out _ rfl hds)
              have hcmp := str_no hds
              clear hds
              go_wp2_with fail
              refine (l01Dec_any hi _).mono ?_
              rintro e w1 ⟨rfl, hq⟩
              go_wp2_with fail
              go_ret2
              rw [HN.out]
              exact ⟨rfl, hq⟩
    · have HT := Lib.hid (numT_pos h0 h45)
      have h45i : ((s[0].toNat : Int) == 45) = false := by
        rw [beq_eq_false_iff_ne]
        intro q
        exact h45 (UInt8.toNat_inj.1 (by have : (45 : UInt8).toNat = 45 := rfl; omega))
      clear h45
      go_enter Tryz.func37, Tryz.ntmps37
      go_upto_region 4 with fail
      clear hne h45i
      by_cases hl : s.size < 1 ∨ 9 < s.size
      · have HN := Lib.hid (numT_no HT.out hl)
        rcases hl with hl | hl
        · omega
        · have hlI : (9 : Int) < (s.size : Int) := by omega
          have hlJ : (1 : Int) ≤ (s.size : Int) := by omega
          go_wp2_with fail
          go_ret2
          rw [HN.out]
          exact ⟨rfl, Below.refl _ _⟩
      · have hl1 : 1 ≤ s.size := by omega
        have hl2 : s.size ≤ 9 := by omega
        have hl1I : (1 : Int) ≤ (s.size : Int) := by omega
        have hl2I : (s.size : Int) ≤ 9 := by omega
        clear hl
        have hv0 : valU (s.data.toList.take 0) = 0 := by rw [List.take_zero]; rfl
        go_wp2_with fail
        go_loopw [5, 6] (fun v i wr => ∃ k : Nat, k ≤ s.size ∧ i = .int .i64 k ∧ v = .int .i64 (valU (s.data.toList.take k) : Int) ∧ (∀ b ∈ s.data.toList.take k, b.toNat ≤ 57) ∧ wr = w) (fun _ i _ => s.size - (intOf i).toNat)
        case atStart => exact ⟨0, Nat.zero_le _, rfl, by rw [hv0]; rfl, by simp, rfl⟩
        case round =>
          obtain ⟨k, hk, rfl, rfl, hd, rfl⟩ := hrel
          have HD := Lib.hid hd
          have hvl : valU (s.data.toList.take k) < 1000000000 := Nat.lt_of_lt_of_le (valU_lt _ _ rfl hd) (by
            have : (s.data.toList.take k).length ≤ 9 := by rw [List.length_take]; omega
            exact Nat.le_trans (Nat.pow_le_pow_right (by decide) this) (by decide))
          clear hd hv0
          by_cases hlt : k < s.size
          · have hltI : (k : Int) < (s.size : Int) := by omega
            cases hdg : inR (s[k].toNat : Int) 48 57
            · have HN := Lib.hid (numT_dig HT.out hlt hdg)
              go_wp2_with (go_at_call 67; refine (is_same hdg (l01Digit_any _ _)).mono ?_; rintro e w' ⟨rfl, rfl⟩)
              go_ret2
              rw [HN.out]
              exact ⟨rfl, Below.refl _ _⟩
            · obtain ⟨g0, g1⟩ := inR_iff.1 hdg
              have HV : Hid (valU (s.data.toList.take (k + 1)) = 10 * valU (s.data.toList.take k) + (s[k].toNat - 48)) := Lib.hid (by rw [tk_succ hlt, valU_snoc])
              have HD2 : Hid (∀ b ∈ s.data.toList.take (k + 1), b.toNat ≤ 57) := Lib.hid fun b hb => by
                rw [tk_succ hlt] at hb
                rcases List.mem_append.1 hb with q | q
                · exact HD.out b q
                · simp only [List.mem_singleton] at q
                  subst q
                  omega
              have hv1 : valU (s.data.toList.take (k + 1)) < 1000000000 := Nat.lt_of_lt_of_le (valU_lt _ _ rfl HD2.out) (by
                have : (s.data.toList.take (k + 1)).length ≤ 9 := by rw [List.length_take]; omega
                exact Nat.le_trans (Nat.pow_le_pow_right (by decide) this) (by decide))
              obtain ⟨vk, hvk⟩ : ∃ vk, vk = valU (s.data.toList.take k) := ⟨_, rfl⟩
              obtain ⟨vn, hvn⟩ : ∃ vn, vn = valU (s.data.toList.take (k + 1)) := ⟨_, rfl⟩
              obtain ⟨tk, htk⟩ : ∃ tk : Int, tk = (s[k].toNat : Int) := ⟨_, rfl⟩
              have HE : Hid ((10 * (vk : Int)) + (tk - 48) = (vn : Int)) := Lib.hid (by have := HV.out; omega)
              have hvn9 : vn < 1000000000 := by omega
              rw [← hvk] at hvl ⊢
              have HVN := Lib.hid hvn
              clear hvn HV hv1 hvk
              go_wp2_with (go_at_call 67; refine (is_same hdg (l01Digit_any _ _)).mono ?_; rintro e w' ⟨rfl, rfl⟩)
              go_roundw
              case rel => exact ⟨k + 1, by omega, by go_num, by rw [← HVN.out, ← HE.out, htk], HD2.out, (by first | rfl | trivial)⟩
              case measure => simp [intOf]; omega
          · obtain rfl : k = s.size := by omega
            rw [List.take_of_length_le (by rw [tl_len_]; exact Nat.le_refl _)] at hvl ⊢
            have HC : Hid (∀ v : Int, v = (valU s.data.toList : Int) → dec v ≠ s → numC s = (0, false)) := Lib.hid fun v hv hne => numT_val HT.out (by rw [hv]; rfl) hne
            generalize valU s.data.toList = vt at *
            have hi : I64 ((vt : Int)) := by constructor <;> omega
            by_cases hds : dec ((vt : Int)) = s
            · have HN : Hid (numC s = ((vt : Int), true)) := Lib.hid (numC_yes hds (by constructor <;> omega))
              have hcmp := str_yes hds
              clear hds
              go_wp2_with fail
              refine (l01Dec_any hi _).mono ?_
              rintro e w1 ⟨rfl, hq⟩
              go_wp2_with fail
              go_ret2
              rw [HN.out]
              exact ⟨rfl, hq⟩
            · have HN := Lib.hid (HC.out _ rfl hds)
              have hcmp := str_no hds
              clear hds
              go_wp2_with fail
              refine (l01Dec_any hi _).mono ?_
              rintro e w1 ⟨rfl, hq⟩
              go_wp2_with fail
              go_ret2
              rw [HN.out]
              exact ⟨rfl, hq⟩
end Go.Proofs.YtgmppfhokfifgaaGreatDoor
