/-
  Contracts: the program's ReadDecimal, needles of both.
-/
import Derived.Test.YtgmppfhokfifgaaGreatDoorTxr
import Derived.Test.YtgmppfhokfifgaaGreatDoorOps
import Derived.Lib.ParseIntBTie
import Derived.Lib.AtoiTie
namespace Go.Proofs.YtgmppfhokfifgaaGreatDoor
set_option maxRecDepth 10000
open Go.RowKit Go.Sort

theorem decFrom_snoc (l : List UInt8) (b : UInt8) (d : Nat) (hd : Lib.digitVal b = some d) : ∀ (acc n : Nat), Lib.decFrom acc l = some n → Lib.decFrom acc (l ++ [b]) = some (n * 10 + d) := by
  induction l with
  | nil =>
    intro acc n h
    simp only [Lib.decFrom, Option.some.injEq] at h
    subst h
    simp [Lib.decFrom, hd]
  | cons a r ih =>
    intro acc n h
    simp only [List.cons_append, Lib.decFrom] at h ⊢
    cases ha : Lib.digitVal a with
    | none => rw [ha] at h; cases h
    | some e => rw [ha] at h; simp only at h ⊢; exact ih _ _ h
theorem digitVal_dig {k : Nat} (h : k < 10) : Lib.digitVal (UInt8.ofNat (48 + k)) = some k := by
  unfold Lib.digitVal
  rw [dig_toNat h, if_pos (by omega)]
  congr 1
  omega
theorem decFrom_dig (u : Nat) : Lib.decFrom 0 (Lib.decDigits u) = some u := by
  induction u using Nat.strongRecOn with
  | _ u ih =>
    by_cases h10 : u < 10
    · rw [Lib.decDigits_one h10]
      simp only [Lib.decFrom, digitVal_dig h10, Nat.zero_mul, Nat.zero_add]
    · rw [Lib.decDigits, dif_neg h10, decFrom_snoc _ _ _ (digitVal_dig (Nat.mod_lt _ (by decide))) _ _ (ih (u / 10) (by omega))]
      congr 1
      omega
theorem atoi_itoa (m : Int) : Lib.atoi (Lib.itoa m) = some m := by
  rcases dec_form m with ⟨h, e⟩ | ⟨h, e⟩
  · rw [dec_data] at e
    rw [e]
    obtain ⟨b, r, e2, -⟩ := dig_head m.natAbs
    have hd := decFrom_dig m.natAbs
    simp only [Lib.atoi, beq_self_eq_true, if_true, Lib.decNat]
    rw [e2] at hd ⊢
    simp only [List.isEmpty_cons, Bool.false_eq_true, if_false, hd, Option.map_some, Option.some.injEq]
    omega
  · rw [dec_data] at e
    rw [e]
    obtain ⟨b, r, e2, hb⟩ := dig_head m.natAbs
    have hd := decFrom_dig m.natAbs
    have hb2 := (dig_all m.natAbs b (by rw [e2]; simp)).1
    rw [e2] at hd ⊢
    have h43 : (b == 43) = false := by
      rw [beq_eq_false_iff_ne]
      rintro rfl
      revert hb2; decide
    have h45 : (b == 45) = false := by rw [beq_eq_false_iff_ne]; exact hb
    simp only [Lib.atoi, h45, h43, Bool.false_eq_true, if_false, Lib.decNat, List.isEmpty_cons, hd, Option.map_some, Option.some.injEq]
    omega
theorem parse_dec {m : Int} (hm : numOk m) : Lib.parseIntB 64 (dec m).data.toList = .ok m := by
  unfold numOk at hm
  have hl : (Lib.itoa m).length ≤ 18 := by
    have h9 := dig_len (u := m.natAbs) (by omega)
    rcases dec_form m with ⟨-, e⟩ | ⟨-, e⟩
    · rw [dec_data] at e; rw [e]; simp only [List.length_cons]; omega
    · rw [dec_data] at e; rw [e]; omega
  rw [dec_data, Lib.parseIntB_64, Lib.atoiAll_short _ hl, atoi_itoa]
  rfl
/-- The variables that the program's reading of numbers asks of. -/
structure Dw (w : World) : Prop where
  tab : Tab w
  syn : ∃ tp p, w.var? Tryz.prog "strconv.ErrSyntax" = some #[.iface tp p]
  rng : ∃ tp p, w.var? Tryz.prog "strconv.ErrRange" = some #[.iface tp p]
theorem Dw.below {w w' : World} (h : Dw w) (hb : Below w.heap.size w w') : Dw w' := by
  obtain ⟨a, ⟨t, p, b⟩, ⟨u, q, c⟩⟩ := h
  exact ⟨a.below hb, ⟨t, p, var_fwd hb b⟩, ⟨u, q, var_fwd hb c⟩⟩
theorem bytesWorld_below (w : World) (e : TypeId) (t : ByteArray) : Below w.heap.size w (Lib.bytesWorld w e t) :=
  ⟨rfl, rfl, rfl, by rw [Lib.bytesWorld_size]; omega, fun k hk => Lib.bytesWorld_at_old w e t k hk⟩
set_option maxHeartbeats 6400000 in
theorem ReadDecimal_any (s : ByteArray) {w : World} (hs : s.size ≤ 1048576) (hd : Dw w) : Calls Tryz.prog 44 #[.string s] w fun e w' => e = .returned (.tuple #[.int .i64 (numC s).1, .bool (numC s).2]) ∧ Below w.heap.size w w' := by
  obtain ⟨ht, ⟨t1, p1, h1⟩, ⟨t2, p2, h2⟩⟩ := hd
  have HT := Lib.hid ht
  have H1 := Lib.hid h1
  have H2 := Lib.hid h2
  clear ht h1 h2
  cases hp : Lib.parseIntB 64 s.data.toList
  · rename_i v
    have hbd := Lib.parseIntB_bounds hp
    have e63 : ((2 ^ (64 - 1) : Nat) : Int) = 9223372036854775808 := by decide
    rw [e63] at hbd
    obtain ⟨v0, v1⟩ := hbd
    have HP : Hid (Calls Tryz.prog 77 #[.string s, .int .i64 10, .int .i64 64] w fun e w' => e = .returned (.tuple #[.int .i64 v, .nilIface]) ∧ Below w.heap.size w w') := Lib.hid ((Tryz.strconv_ParseInt_10_at64_ok s (by omega) v hp w).mono fun e w' ⟨h1, h2⟩ => ⟨h1, by
      rcases h2 with rfl | ⟨t, rfl⟩
      · exact Below.refl _ _
      · exact bytesWorld_below _ _ _⟩)
    have HE : Hid (∀ m, numOk m → dec m = s → m = v) := Lib.hid fun m hm e => by
      rw [← e, parse_dec hm] at hp
      injection hp
    clear hp e63
    by_cases hv : numOk v
    · obtain ⟨v2, v3⟩ := id hv
      have hi : I64 v := by constructor <;> omega
      have hv2 : ¬ (999999999 < v) := by omega
      have hv3 : ¬ (v < -999999999) := by omega
      by_cases hds : dec v = s
      · have HN : Hid (numC s = (v, true)) := Lib.hid (numC_yes hds hv)
        have hcmp := str_yes hds
        clear hds hv
        go_enter Tryz.func44, Tryz.ntmps44
        go_wp2_with fail
        refine HP.out.mono ?_
        rintro e w1 ⟨rfl, hq⟩
        have HQ := Lib.hid hq
        clear hq
        go_wp2_with fail
        all_goals (first | (exfalso; omega) | skip)
        refine (Decimal_any hi (HT.out.below HQ.out)).mono ?_
        rintro e w2 ⟨rfl, hq⟩
        have HQ2 := Lib.hid (HQ.out.trans (hq.mono HQ.out.size))
        clear hq HQ
        go_wp2_with fail
        go_ret2
        rw [HN.out]
        exact ⟨rfl, HQ2.out⟩
      · have HN : Hid (numC s = (0, false)) := Lib.hid (numC_no fun m hm e => hds (by rw [← HE.out m hm e]; exact e))
        have hcmp := str_no hds
        clear hds hv
        go_enter Tryz.func44, Tryz.ntmps44
        go_wp2_with fail
        refine HP.out.mono ?_
        rintro e w1 ⟨rfl, hq⟩
        have HQ := Lib.hid hq
        clear hq
        go_wp2_with fail
        all_goals (first | (exfalso; omega) | skip)
        refine (Decimal_any hi (HT.out.below HQ.out)).mono ?_
        rintro e w2 ⟨rfl, hq⟩
        have HQ2 := Lib.hid (HQ.out.trans (hq.mono HQ.out.size))
        clear hq HQ
        go_wp2_with fail
        go_ret2
        rw [HN.out]
        exact ⟨rfl, HQ2.out⟩
    · have HN : Hid (numC s = (0, false)) := Lib.hid (numC_no fun m hm e => hv (by rw [← HE.out m hm e]; exact hm))
      unfold numOk at hv
      by_cases hbig : 999999999 < v
      · clear hv
        go_enter Tryz.func44, Tryz.ntmps44
        go_wp2_with fail
        refine HP.out.mono ?_
        rintro e w1 ⟨rfl, hq⟩
        have HQ := Lib.hid hq
        clear hq
        go_wp2_with fail
        go_ret2
        rw [HN.out]
        exact ⟨rfl, HQ.out⟩
      · have hlow : v < -999999999 := by omega
        clear hv
        go_enter Tryz.func44, Tryz.ntmps44
        go_wp2_with fail
        refine HP.out.mono ?_
        rintro e w1 ⟨rfl, hq⟩
        have HQ := Lib.hid hq
        clear hq
        go_wp2_with fail
        go_ret2
        rw [HN.out]
        exact ⟨rfl, HQ.out⟩
  · have HN : Hid (numC s = (0, false)) := Lib.hid (numC_no fun m hm e => by rw [← e, parse_dec hm] at hp; cases hp)
    have HP := Lib.hid (Tryz.strconv_ParseInt_10_at64_syntax_var s (by omega) (hp.trans rfl) t1 p1 w H1.out)
    clear hp
    go_enter Tryz.func44, Tryz.ntmps44
    go_wp2_with fail
    refine HP.out.mono ?_
    rintro e w1 ⟨N, rfl, -, -, hq⟩
    have HQ := Lib.hid hq
    clear hq
    go_wp2_with fail
    go_ret2
    rw [HN.out]
    exact ⟨rfl, HQ.out⟩
  · have HN : Hid (numC s = (0, false)) := Lib.hid (numC_no fun m hm e => by rw [← e, parse_dec hm] at hp; cases hp)
    have HP := Lib.hid (Tryz.strconv_ParseInt_10_at64_range_var s (by omega) hp t2 p2 w H2.out)
    clear hp
    go_enter Tryz.func44, Tryz.ntmps44
    go_wp2_with fail
    refine HP.out.mono ?_
    rintro e w1 ⟨N, rfl, -, -, hq⟩
    have HQ := Lib.hid hq
    clear hq
    go_wp2_with fail
    go_ret2
    rw [HN.out]
    exact ⟨rfl, HQ.out⟩
end Go.Proofs.YtgmppfhokfifgaaGreatDoor
