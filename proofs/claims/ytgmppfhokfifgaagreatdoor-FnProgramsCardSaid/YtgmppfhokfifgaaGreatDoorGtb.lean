/-
  Numbers and needles read from a text: plain laws.
-/
import Derived.Test.YtgmppfhokfifgaaGreatDoorGta
import Derived.Test.YtgmppfhokfifgaaGreatDoorGsh
import Derived.Test.YtgmppfhokfifgaaGreatDoorOps
import Derived.Lib.ParseIntBTie
import Derived.Lib.AtoiTie
namespace Go.Proofs.YtgmppfhokfifgaaGreatDoor
set_option maxRecDepth 10000
open Go.RowKit Go.Sort

def valU (l : List UInt8) : Nat := l.foldl (fun a b => 10 * a + (b.toNat - 48)) 0
theorem valU_snoc (l : List UInt8) (b : UInt8) : valU (l ++ [b]) = 10 * valU l + (b.toNat - 48) := by simp [valU]
theorem dig_toNat {k : Nat} (h : k < 10) : (UInt8.ofNat (48 + k)).toNat = 48 + k := by
  rw [UInt8.toNat_ofNat']
  omega
theorem dig_all (u : Nat) : ∀ b ∈ Lib.decDigits u, 48 ≤ b.toNat ∧ b.toNat ≤ 57 := by
  induction u using Nat.strongRecOn with
  | _ u ih =>
    intro b hb
    by_cases h10 : u < 10
    · rw [Lib.decDigits_one h10] at hb
      simp only [List.mem_singleton] at hb
      subst hb
      rw [dig_toNat h10]; omega
    · rw [Lib.decDigits, dif_neg h10] at hb
      rcases List.mem_append.1 hb with q | q
      · exact ih (u / 10) (by omega) b q
      · simp only [List.mem_singleton] at q
        subst q
        rw [dig_toNat (Nat.mod_lt _ (by decide))]; omega
theorem valU_dec (u : Nat) : valU (Lib.decDigits u) = u := by
  induction u using Nat.strongRecOn with
  | _ u ih =>
    by_cases h10 : u < 10
    · rw [Lib.decDigits_one h10]
      simp only [valU, List.foldl_cons, List.foldl_nil]
      rw [dig_toNat h10]; omega
    · rw [Lib.decDigits, dif_neg h10, valU_snoc, ih (u / 10) (by omega), dig_toNat (Nat.mod_lt _ (by decide))]
      omega
def valS (s : ByteArray) : Int := match s.data.toList with
  | [] => 0
  | b :: r => if b = 45 then -(valU r : Int) else (valU (b :: r) : Int)
theorem dec_data (m : Int) : (dec m).data.toList = Lib.itoa m := rfl
/-- What the text of a number is. -/
theorem dec_form (m : Int) : (m < 0 ∧ (dec m).data.toList = 45 :: Lib.decDigits m.natAbs) ∨ (0 ≤ m ∧ (dec m).data.toList = Lib.decDigits m.natAbs) := by
  rw [dec_data]
  by_cases h : m < 0
  · exact .inl ⟨h, by unfold Lib.itoa; rw [if_pos h]⟩
  · refine .inr ⟨by omega, ?_⟩
    unfold Lib.itoa
    rw [if_neg h]
    congr 1
    omega
theorem dig_head (u : Nat) : ∃ b r, Lib.decDigits u = b :: r ∧ b ≠ 45 := by
  cases h : Lib.decDigits u with
  | nil =>
    have := Lib.decDigits_length u
    have h1 := Lib.nDigits_pos u
    rw [h] at this
    simp at this
    omega
  | cons b r =>
    refine ⟨b, r, rfl, fun e => ?_⟩
    have := (dig_all u b (by rw [h]; simp)).1
    subst e
    revert this
    decide
theorem valS_dec (m : Int) : valS (dec m) = m := by
  unfold valS
  rcases dec_form m with ⟨h, e⟩ | ⟨h, e⟩
  · rw [e]
    simp only [if_true, valU_dec]
    omega
  · rw [e]
    obtain ⟨b, r, e2, hb⟩ := dig_head m.natAbs
    have hv := valU_dec m.natAbs
    rw [e2] at hv ⊢
    simp only [if_neg hb, hv]
    omega
def numOk (m : Int) : Prop := -999999999 ≤ m ∧ m ≤ 999999999
instance (m : Int) : Decidable (numOk m) := by unfold numOk; exact inferInstance
def numC (s : ByteArray) : Int × Bool := if dec (valS s) = s ∧ numOk (valS s) then (valS s, true) else (0, false)
theorem numC_yes {m : Int} {s : ByteArray} (h : dec m = s) (hm : numOk m) : numC s = (m, true) := by
  subst h
  unfold numC
  rw [valS_dec, if_pos ⟨rfl, hm⟩]
theorem numC_no {s : ByteArray} (h : ∀ m, numOk m → dec m ≠ s) : numC s = (0, false) := by
  unfold numC
  rw [if_neg fun ⟨a, b⟩ => h _ b a]
theorem numC_true {s : ByteArray} (h : (numC s).2 = true) : dec (numC s).1 = s ∧ numOk (numC s).1 := by
  unfold numC at h ⊢
  split at h
  · rename_i q; rw [if_pos q]; exact q
  · cases h
theorem nDig9 {u : Nat} (h : u ≤ 999999999) : Lib.nDigits u ≤ 9 := by
  rcases (show u < 10 ∨ (10 ≤ u ∧ u < 100) ∨ (100 ≤ u ∧ u < 1000) ∨ (1000 ≤ u ∧ u < 10000) ∨ (10000 ≤ u ∧ u < 100000) ∨ (100000 ≤ u ∧ u < 1000000) ∨ (1000000 ≤ u ∧ u < 10000000) ∨ (10000000 ≤ u ∧ u < 100000000) ∨ (100000000 ≤ u ∧ u < 1000000000) by omega) with h | ⟨h1, h2⟩ | ⟨h1, h2⟩ | ⟨h1, h2⟩ | ⟨h1, h2⟩ | ⟨h1, h2⟩ | ⟨h1, h2⟩ | ⟨h1, h2⟩ | ⟨h1, h2⟩
  · rw [Lib.nDigits_small h]; decide
  · rw [Lib.nDigits_unique 1 u (by simpa using h1) (by simpa using h2)]; decide
  · rw [Lib.nDigits_unique 2 u (by simpa using h1) (by simpa using h2)]; decide
  · rw [Lib.nDigits_unique 3 u (by simpa using h1) (by simpa using h2)]; decide
  · rw [Lib.nDigits_unique 4 u (by simpa using h1) (by simpa using h2)]; decide
  · rw [Lib.nDigits_unique 5 u (by simpa using h1) (by simpa using h2)]; decide
  · rw [Lib.nDigits_unique 6 u (by simpa using h1) (by simpa using h2)]; decide
  · rw [Lib.nDigits_unique 7 u (by simpa using h1) (by simpa using h2)]; decide
  · rw [Lib.nDigits_unique 8 u (by simpa using h1) (by simpa using h2)]; decide
theorem dig_len {u : Nat} (h : u ≤ 999999999) : 1 ≤ (Lib.decDigits u).length ∧ (Lib.decDigits u).length ≤ 9 := by
  rw [Lib.decDigits_length]
  exact ⟨Lib.nDigits_pos u, nDig9 h⟩
end Go.Proofs.YtgmppfhokfifgaaGreatDoor
/-
  Contracts: numbers read from a text (the reference's l01Number, the program's ReadDecimal). Printed by gen_txr.py.
-/
namespace Go.Proofs.YtgmppfhokfifgaaGreatDoor
set_option maxRecDepth 10000
open Go.RowKit Go.Sort

theorem tk_succ {t : ByteArray} {k : Nat} (h : k < t.size) : t.data.toList.take (k + 1) = t.data.toList.take k ++ [t[k]] := by
  have h1 : k < t.data.toList.length := by rw [Array.length_toList]; exact h
  rw [List.take_succ_eq_append_getElem h1]
  rfl
theorem tl_len_ (t : ByteArray) : t.data.toList.length = t.size := by rw [Array.length_toList]; rfl
theorem ba_empty {s : ByteArray} (h : s.size = 0) : s = { data := #[] } := ByteArray.ext (Array.eq_empty_of_size_eq_zero h)
theorem ne_emp {s : ByteArray} (h : 0 < s.size) : s.toList.isEmpty = false := by
  rw [ByteArray.toList_eq, ← tl_len_] at *
  cases hs : s.data.toList with
  | nil => rw [hs] at h; simp at h
  | cons b r => rfl
theorem str_yes {a b : ByteArray} (h : a = b) : (a.toList == b.toList) = true := by rw [h]; exact beq_self_eq_true _
theorem str_no {a b : ByteArray} (h : a ≠ b) : (a.toList == b.toList) = false := by
  rw [beq_eq_false_iff_ne, ByteArray.toList_eq, ByteArray.toList_eq]
  exact fun q => h (ba_ext q)
theorem numC_empty : numC { data := #[] } = (0, false) := numC_no fun m _ e => by
  obtain ⟨b, r, e2, -⟩ := dig_head m.natAbs
  have e3 := congrArg (fun x : ByteArray => x.data.toList) e
  rcases dec_form m with ⟨-, h2⟩ | ⟨-, h2⟩
  · simp only [h2] at e3; simp at e3
  · simp only [h2, e2] at e3; simp at e3
theorem hd_form {s : ByteArray} (h : 0 < s.size) : s.data.toList = s[0] :: (s.extract 1 s.size).data.toList := by
  have h1 : 0 < s.data.toList.length := by rw [Array.length_toList]; exact h
  have e : (s.extract 1 s.size).data.toList = s.data.toList.drop 1 := by
    rw [ByteArray.data_extract, Array.toList_extract]
    have : s.data.toList.length = s.size := tl_len_ s
    simp only [List.extract]
    rw [List.take_of_length_le (by rw [List.length_drop, this]; exact Nat.le_refl _)]
  rw [e]
  conv => lhs; rw [← List.drop_zero (l := s.data.toList), List.drop_eq_getElem_cons h1]
  rfl
end Go.Proofs.YtgmppfhokfifgaaGreatDoor
/-
  Contracts: the program's ReadDecimal, needles of both.
-/
namespace Go.Proofs.YtgmppfhokfifgaaGreatDoor
set_option maxRecDepth 10000
open Go.RowKit Go.Sort

theorem decFrom_snoc (l : List UInt8) (b : UInt8) (d : Nat) (hd : Lib.digitVal b = some d) : ∀ (acc n : Nat), Lib.decFrom acc l = some n → Lib.decFrom acc (l ++ [b]) = some (n * 10 + d) := by
  induction l with
  | nil =>
    intro acc n h
    simp only [Lib.decFrom, Option.some.injEq] at h
    subst h
    simp [Lib.decFrom, hd]
  | cons a r ih =>
    intro acc n h
    simp only [List.cons_append, Lib.decFrom] at h ⊢
    cases ha : Lib.digitVal a with
    | none => rw [ha] at h; cases h
    | some e => rw [ha] at h; simp only at h ⊢; exact ih _ _ h
theorem digitVal_dig {k : Nat} (h : k < 10) : Lib.digitVal (UInt8.ofNat (48 + k)) = some k := by
  unfold Lib.digitVal
  rw [dig_toNat h, if_pos (by omega)]
  congr 1
  omega
theorem decFrom_dig (u : Nat) : Lib.decFrom 0 (Lib.decDigits u) = some u := by
  induction u using Nat.strongRecOn with
  | _ u ih =>
    by_cases h10 : u < 10
    · rw [Lib.decDigits_one h10]
      simp only [Lib.decFrom, digitVal_dig h10, Nat.zero_mul, Nat.zero_add]
    · rw [Lib.decDigits, dif_neg h10, decFrom_snoc _ _ _ (digitVal_dig (Nat.mod_lt _ (by decide))) _ _ (ih (u / 10) (by omega))]
      congr 1
      omega
theorem atoi_itoa (m : Int) : Lib.atoi (Lib.itoa m) = some m := by
  rcases dec_form m with ⟨h, e⟩ | ⟨h, e⟩
  · rw [dec_data] at e
    rw [e]
    obtain ⟨b, r, e2, -⟩ := dig_head m.natAbs
    have hd := decFrom_dig m.natAbs
    simp only [Lib.atoi, beq_self_eq_true, if_true, Lib.decNat]
    rw [e2] at hd ⊢
    simp only [List.isEmpty_cons, Bool.false_eq_true, if_false, hd, Option.map_some, Option.some.injEq]
    omega
  · rw [dec_data] at e
    rw [e]
    obtain ⟨b, r, e2, hb⟩ := dig_head m.natAbs
    have hd := decFrom_dig m.natAbs
    have hb2 := (dig_all m.natAbs b (by rw [e2]; simp)).1
    rw [e2] at hd ⊢
    have h43 : (b == 43) = false := by
      rw [beq_eq_false_iff_ne]
      rintro rfl
      revert hb2; decide
    have h45 : (b == 45) = false := by rw [beq_eq_false_iff_ne]; exact hb
    simp only [Lib.atoi, h45, h43, Bool.false_eq_true, if_false, Lib.decNat, List.isEmpty_cons, hd, Option.map_some, Option.some.injEq]
    omega
theorem parse_dec {m : Int} (hm : numOk m) : Lib.parseIntB 64 (dec m).data.toList = .ok m := by
  unfold numOk at hm
  have hl : (Lib.itoa m).length ≤ 18 := by
    have h9 := dig_len (u := m.natAbs) (by omega)
    rcases dec_form m with ⟨-, e⟩ | ⟨-, e⟩
    · rw [dec_data] at e; rw [e]; simp only [List.length_cons]; omega
    · rw [dec_data] at e; rw [e]; omega
  rw [dec_data, Lib.parseIntB_64, Lib.atoiAll_short _ hl, atoi_itoa]
  rfl
/-- The variables that the program's reading of numbers asks of. -/
structure Dw (w : World) : Prop where
  tab : Tab w
  syn : ∃ tp p, w.var? Tryz.prog "strconv.ErrSyntax" = some #[.iface tp p]
  rng : ∃ tp p, w.var? Tryz.prog "strconv.ErrRange" = some #[.iface tp p]
theorem Dw.below {w w' : World} (h : Dw w) (hb : Below w.heap.size w w') : Dw w' := by
  obtain ⟨a, ⟨t, p, b⟩, ⟨u, q, c⟩⟩ := h
  exact ⟨a.below hb, ⟨t, p, var_fwd hb b⟩, ⟨u, q, var_fwd hb c⟩⟩
theorem bytesWorld_below (w : World) (e : TypeId) (t : ByteArray) : Below w.heap.size w (Lib.bytesWorld w e t) :=
  ⟨rfl, rfl, rfl, by rw [Lib.bytesWorld_size]; omega, fun k hk => Lib.bytesWorld_at_old w e t k hk⟩
set_option maxHeartbeats 6400000 in
theorem ReadDecimal_any (s : ByteArray) {w : World} (hs : s.size ≤ 1048576) (hd : Dw w) : Calls Tryz.prog 44 #[.string s] w fun e w' => e = .returned (.tuple #[.int .i64 (numC s).1, .bool (numC s).2]) ∧ Below w.heap.size w w' := by
  obtain ⟨ht, ⟨t1, p1, h1⟩, ⟨t2, p2, h2⟩⟩ := hd
  have HT := Lib.hid ht
  have H1 := Lib.hid h1
  have H2 := Lib.hid h2
  clear ht h1 h2
  cases hp : Lib.parseIntB 64 s.data.toList
  · rename_i v
    have hbd := Lib.parseIntB_bounds hp
    have e63 : ((2 ^ (64 - 1) : Nat) : Int) = 9223372036854775808 := by decide
    rw [e63] at hbd
    obtain ⟨v0, v1⟩ := hbd
    have HP : Hid (Calls Tryz.prog 77 #[.string s, .int .i64 10, .int .i64 64] w fun e w' => e = .returned (.tuple #[.int .i64 v, .nilIface]) ∧ Below w.heap.size w w') := Lib.hid ((Tryz.strconv_ParseInt_10_at64_ok s (by omega) v hp w).mono fun e w' ⟨h1, h2⟩ => ⟨h1, by
      rcases h2 with rfl | ⟨t, rfl⟩
      · exact Below.refl _ _
      · exact bytesWorld_below _ _ _⟩)
    have HE : Hid (∀ m, numOk m → dec m = s → m = v) := Lib.hid fun m hm e => by
      rw [← e, parse_dec hm] at hp
      injection hp
    clear hp e63
    by_cases hv : numOk v
    · obtain ⟨v2, v3⟩ := id hv
      have hi : I64 v := by constructor <;> omega
      have hv2 : ¬ (999999999 < v) := by omega
      have hv3 : ¬ (v < -999999999) := by omega
      by_cases hds : dec v = s
      · have HN : Hid (numC s = (v, true)) := Lib.hid (numC_yes hds hv)
        have hcmp := str_yes hds
        clear hds hv
        go_enter Tryz.func44, Tryz.ntmps44
        go_wp2_with fail
        refine HP.out.mono ?_
        rintro e w1 ⟨rfl, hq⟩
        have HQ := Lib.hid hq
        clear hq
        go_wp2_with fail
        all_goals (first | (exfalso; omega) | skip)
        refine (Decimal_any hi (HT.out.below HQ.out)).mono ?_
        rintro e w2 ⟨rfl, hq⟩
        have HQ2 := Lib.hid (HQ.out.trans (hq.mono HQ.out.size))
        clear hq HQ
        go_wp2_with fail
        go_ret2
        rw [HN.out]
        exact ⟨rfl, HQ2.out⟩
      · have HN : Hid (numC s = (0, false)) := Lib.hid (numC_no fun m hm e => hds (by rw [← HE.out m hm e]; exact e))
        have hcmp := str_no hds
        clear hds hv
        go_enter Tryz.func44, Tryz.ntmps44
        go_wp2_with fail
        refine HP.out.mono ?_
        rintro e w1 ⟨rfl, hq⟩
        have HQ := Lib.hid hq
        clear hq
        go_wp2_with fail
        all_goals (first | (exfalso; omega) | skip)
        refine (Decimal_any hi (HT.out.below HQ.out)).mono ?_
        rintro e w2 ⟨rfl, hq⟩
        have HQ2 := Lib.hid (HQ.out.trans (hq.mono HQ.out.size))
        clear hq HQ
        go_wp2_with fail
        go_ret2
        rw [HN.out]
        exact ⟨rfl, HQ2.out⟩
    · have HN : Hid (numC s = (0, false)) := Lib.hid (numC_no fun m hm e => hv (by rw [← HE.out m hm e]; exact hm))
      unfold numOk at hv
      by_cases hbig : 999999999 < v
      · clear hv
        go_enter Tryz.func44, Tryz.ntmps44
        go_wp2_with fail
        refine HP.out.mono ?_
        rintro e w1 ⟨rfl, hq⟩
        have HQ := Lib.hid hq
        clear hq
        go_wp2_with fail
        go_ret2
        rw [HN.out]
        exact ⟨rfl, HQ.out⟩
      · have hlow : v < -999999999 := by omega
        clear hv
        go_enter Tryz.func44, Tryz.ntmps44
        go_wp2_with fail
        refine HP.out.mono ?_
        rintro e w1 ⟨rfl, hq⟩
        have HQ := Lib.hid hq
        clear hq
        go_wp2_with fail
        go_ret2
        rw [HN.out]
        exact ⟨rfl, HQ.out⟩
  · have HN : Hid (numC s = (0, false)) := Lib.hid (numC_no fun m hm e => by rw [← e, parse_dec hm] at hp; cases hp)
    have HP := Lib.hid (Tryz.strconv_ParseInt_10_at64_syntax_var s (by omega) (hp.trans rfl) t1 p1 w H1.out)
    clear hp
    go_enter Tryz.func44, Tryz.ntmps44
    go_wp2_with fail
    refine HP.out.mono ?_
    rintro e w1 ⟨N, rfl, -, -, hq⟩
    have HQ := Lib.hid hq
    clear hq
    go_wp2_with fail
    go_ret2
    rw [HN.out]
    exact ⟨rfl, HQ.out⟩
  · have HN : Hid (numC s = (0, false)) := Lib.hid (numC_no fun m hm e => by rw [← e, parse_dec hm] at hp; cases hp)
    have HP := Lib.hid (Tryz.strconv_ParseInt_10_at64_range_var s (by omega) hp t2 p2 w H2.out)
    clear hp
    go_enter Tryz.func44, Tryz.ntmps44
    go_wp2_with fail
    refine HP.out.mono ?_
    rintro e w1 ⟨N, rfl, -, -, hq⟩
    have HQ := Lib.hid hq
    clear hq
    go_wp2_with fail
    go_ret2
    rw [HN.out]
    exact ⟨rfl, HQ.out⟩
end Go.Proofs.YtgmppfhokfifgaaGreatDoor
