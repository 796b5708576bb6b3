/-
  Contracts: decimal forms (the reference's l01Dec, the program's Decimal).
-/
import Derived.Test.YtgmppfhokfifgaaGreatDoorOwr
import Derived.Test.YtgmppfhokfifgaaGreatDoorSfi
import Derived.Test.YtgmppfhokfifgaaGreatDoorSmall
import Derived.Test.YtgmppfhokfifgaaGreatDoorApc
import Derived.Lib.ItoaLen
import Derived.Lib.AppendIntMem
import Derived.WalkSmall
import Derived.Laws.Concat
namespace Go.Proofs.YtgmppfhokfifgaaGreatDoor
set_option maxRecDepth 10000
open Go.RowKit Go.Sort

/-- The decimal form of a number. -/
def dec (n : Int) : ByteArray := ⟨(Lib.itoa n).toArray⟩
def I64 (n : Int) : Prop := -9223372036854775808 ≤ n ∧ n ≤ 9223372036854775807
theorem dec_size {n : Int} (h : I64 n) : (dec n).size ≤ 21 := by
  show (Lib.itoa n).toArray.size ≤ 21
  rw [List.size_toArray]
  exact Lib.itoa_length_le n h.1 h.2
/-- The digits of a number above zero; none of zero. -/
def tl (u : Nat) : List Int := if _h : u = 0 then [] else tl (u / 10) ++ [((48 + u % 10 : Nat) : Int)]
termination_by u
decreasing_by omega
theorem tl_zero : tl 0 = [] := by rw [tl]; simp
theorem tl_pos {u : Nat} (h : 0 < u) : tl u = tl (u / 10) ++ [((48 + u % 10 : Nat) : Int)] := by rw [tl, dif_neg (by omega)]
theorem tl_bytes (u : Nat) : 0 < u → (tl u).map (fun n => UInt8.ofNat n.toNat) = Lib.decDigits u := by
  induction u using Nat.strongRecOn with
  | _ u ih =>
    intro h
    rw [tl_pos h]
    by_cases h10 : u < 10
    · rw [Nat.div_eq_of_lt h10, tl_zero, Lib.decDigits_one h10, Nat.mod_eq_of_lt h10]; rfl
    · rw [Lib.decDigits, dif_neg h10, List.map_append, ih (u / 10) (by omega) (by omega)]; rfl
theorem strOf_dataT (bs : List Int) : ∀ r : ByteArray, (bs.foldl (fun r n => r.push (UInt8.ofNat n.toNat)) r).data = r.data ++ (bs.map (fun n => UInt8.ofNat n.toNat)).toArray := by
  induction bs with
  | nil => intro r; simp
  | cons b l ih =>
    intro r
    rw [List.foldl_cons, ih]
    simp [ByteArray.push]
theorem strOf_eq (bs : List Int) : strOf bs = ⟨(bs.map (fun n => UInt8.ofNat n.toNat)).toArray⟩ := by
  have h : (strOf bs).data = (bs.map (fun n => UInt8.ofNat n.toNat)).toArray := by
    unfold strOf
    rw [strOf_dataT]
    show #[] ++ _ = _
    simp
  exact ByteArray.ext h
theorem dec_pos {u : Nat} (h : 0 < u) : strOf (tl u) = dec (u : Int) := by rw [strOf_eq, tl_bytes u h, dec, Lib.itoa_nonneg]
theorem dec_neg {u : Nat} (h : 0 < u) : { data := #[45] } ++ strOf (tl u) = dec (-(u : Int)) := by
  rw [strOf_eq, tl_bytes u h, dec, Lib.itoa_neg u h, ByteArray.mk_append_mk]
  simp
theorem dec_zero : dec 0 = { data := #[48] } := by
  have := Lib.itoa_nonneg 0
  rw [Lib.decDigits_one (by omega)] at this
  unfold dec
  rw [show ((0 : Int)) = ((0 : Nat) : Int) from rfl, this]
  rfl
/-- The table that FormatInt reads. -/
def Tab (w : World) : Prop := Lib.TabIs Tryz.prog w "internal/strconv.uint64pow10" .u64 Lib.pow10Tab
theorem var_fwd {P : Program} {w w' : World} {n : String} {cs : Array Value} (hb : Below w.heap.size w w') (h : w.var? P n = some cs) : w'.var? P n = some cs := by
  unfold World.var? at h ⊢
  cases hg : P.globalNamed n with
  | none => rw [hg] at h; simp at h
  | some g =>
    rw [hg] at h
    simp only [Option.bind_some] at h ⊢
    cases hx : w.heap[g]? with
    | none => rw [hx] at h; simp at h
    | some o =>
      have hlt : g < w.heap.size := (Array.getElem?_eq_some_iff.1 hx).1
      rw [hb.block g hlt, hx]
      rw [hx] at h
      exact h
theorem Tab.below {w w' : World} (h : Tab w) (hb : Below w.heap.size w w') : Tab w' := var_fwd hb h
/-- Strings are put together. -/
theorem cat {x y : ByteArray} {a b : Nat} (hx : x.size ≤ a) (hy : y.size ≤ b) (hab : a + b ≤ 1000000000) : ∃ z : ByteArray, z = x ++ y ∧ z.size ≤ a + b ∧ ∀ w : World, (Op.stringOp .add x y).run Tryz.prog w = .ok (.string z) w :=
  ⟨x ++ y, rfl, by rw [ByteArray.size_append]; omega, fun w => run_string_add_sum w x y (by omega)⟩
theorem grow_below (w : World) (k : Nat) (os : Array Obj) : Below w.heap.size w (grow (w.drewN k) os) := Lib.below_grow _ _ (Nat.le_refl _) k os
theorem Decimal_any {n : Int} (h : I64 n) {w : World} (ht : Tab w) : Calls Tryz.prog 30 #[.int .i64 n] w fun e w' => e = .returned (.string (dec n)) ∧ Below w.heap.size w w' := by
  have HT := Lib.hid ht
  clear ht
  go_enter Tryz.func30, Tryz.ntmps30
  go_wp2_with fail
  refine (Tryz.strconv_FormatInt_10 n h.1 h.2 w HT.out).mono ?_
  rintro e w' ⟨rfl, k, os, rfl⟩
  go_wp2_with fail
  go_ret
  exact ⟨rfl, grow_below _ _ _⟩
theorem tl_len (u : Nat) (h : u < 18446744073709551616) : (tl u).length ≤ 20 := by
  rcases Nat.eq_zero_or_pos u with rfl | h1
  · rw [tl_zero]; simp
  · have := congrArg List.length (tl_bytes u h1)
    rw [List.length_map, Lib.decDigits_length] at this
    have := Lib.nDigits_le20 u h
    omega
theorem u8t_info : (Tryz.prog.info? 5).map (fun i => (i.zero, i.size, i.bytes)) = some (some (.int .u8 0), 1, 1) := by kernel_rfl
/-- A row of the call's own as a source of append. -/
theorem OwR.src {e : TypeId} {w : World} {lo hi : Nat} {v : Value} {n : Nat} {us : List Value} (h : OwR e 1 w lo hi v n us) :
    ∃ A cap, v = .slice A n cap ∧ (A = none → n = 0 ∧ cap = 0) ∧ ∀ w', Below hi w w' → ∀ ad, A = some ad → ∀ (j : Nat) (u : Value), us[j]? = some u → w'.cell? (ad.add j) = some u := by
  rcases h.form with ⟨rfl, rfl, -⟩ | ⟨g, cap, rfl, -, hg, -, -, -, hc⟩
  · exact ⟨none, 0, rfl, fun _ => ⟨rfl, rfl⟩, fun _ _ ad e => by cases e⟩
  · refine ⟨_, cap, rfl, (fun e => by cases e), fun w' hb ad e j u hu => ?_⟩
    cases e
    rw [Addr.add_lit, Nat.zero_add, hb.cell (by simpa using hg)]
    exact hc j u hu
theorem OwR.lit (e : TypeId) (w : World) (u : Value) : OwR e 1 (w.alloc (.cells #[u] e)) w.heap.size (w.alloc (.cells #[u] e)).heap.size (.slice (some ⟨w.heap.size, 0, none⟩) 1 1) 1 [u] :=
  OwR.of_own ⟨by simp, .inr ⟨w.heap.size, 1, #[u], rfl, Nat.le_refl _, by unfold World.alloc; simp only []; rw [Array.getElem?_push_size], Nat.le_refl _, by simp [maxLen], by simp, by simp⟩⟩
theorem tm_facts (x : Int) (hx : x ≠ 0) (x0 : -9223372036854775808 ≤ x) (x1 : x ≤ 9223372036854775807) : ∃ d y : Int, x.tmod 10 = d ∧ x.tdiv 10 = y ∧ (d < 0 → -d = ((x.natAbs % 10 : Nat) : Int)) ∧ (0 ≤ d → d = ((x.natAbs % 10 : Nat) : Int)) ∧ -9 ≤ d ∧ d ≤ 9 ∧ y.natAbs = x.natAbs / 10 ∧ y.natAbs < x.natAbs ∧ -9223372036854775808 ≤ y ∧ y ≤ 9223372036854775807 := by
  refine ⟨_, _, rfl, rfl, ?_⟩
  rcases Int.lt_or_lt_of_ne hx with h | h
  · obtain ⟨u, rfl⟩ : ∃ u : Nat, x = -(u : Int) := ⟨x.natAbs, by omega⟩
    rw [Int.neg_tmod, Int.neg_tdiv, show ((u : Int).tmod 10) = ((u % 10 : Nat) : Int) from rfl, show ((u : Int).tdiv 10) = ((u / 10 : Nat) : Int) from rfl, Int.natAbs_neg, Int.natAbs_neg, Int.natAbs_natCast, Int.natAbs_natCast]
    omega
  · obtain ⟨u, rfl⟩ : ∃ u : Nat, x = (u : Int) := ⟨x.natAbs, by omega⟩
    rw [show ((u : Int).tmod 10) = ((u % 10 : Nat) : Int) from rfl, show ((u : Int).tdiv 10) = ((u / 10 : Nat) : Int) from rfl, Int.natAbs_natCast, Int.natAbs_natCast]
    omega
set_option maxHeartbeats 1600000 in
theorem l01Dec_any {n : Int} (h : I64 n) (w : World) : Calls Tryz.prog 68 #[.int .i64 n] w fun e w' => e = .returned (.string (dec n)) ∧ Below w.heap.size w w' := by
  obtain ⟨h0, h1⟩ := h
  have HLN := Lib.hid (tl_len n.natAbs (by omega))
  go_enter Tryz.func68, Tryz.ntmps68
  go_wp2_with fail
  go_loopw [3, 4] (fun v k wr => ∃ (x : Int) (bs : List Int), OwR 5 1 wr w.heap.size wr.heap.size v bs.length (bvals bs) ∧ k = .int .i64 x ∧ (-9223372036854775808 ≤ x ∧ x ≤ 9223372036854775807) ∧ tl x.natAbs ++ bs = tl n.natAbs ∧ Below w.heap.size w wr) (fun _ k _ => (intOf k).natAbs)
  case atStart => exact ⟨n, [], OwR.empty _ _ _, rfl, ⟨h0, h1⟩, by simp, al1 _ _⟩
  case round =>
    obtain ⟨x, bs, hO, rfl, ⟨x0, x1⟩, ht, hb⟩ := hrel
    have hbl : bs.length ≤ 20 := by
      have := congrArg List.length ht
      have := HLN.out
      rw [List.length_append] at *
      omega
    obtain ⟨A, cap, rfl, hA, hsrc⟩ := hO.src
    have HA := Lib.hid hA
    have HSRC := Lib.hid hsrc
    have HO := Lib.hid hO
    have HT := Lib.hid ht
    have HB := Lib.hid hb
    have hbz := hb.size
    clear hO ht hb hA hsrc
    by_cases hx : x = 0
    · subst hx
      have hs := run_bytes_str (t8 := 28) (ts := 9) Tryz.underlying28 Tryz.underlying5 Tryz.underlying9 HO.out
      have HE : Hid (bs = tl n.natAbs) := Lib.hid (by have := HT.out; simpa [tl_zero] using this)
      rcases (show n = 0 ∨ n < 0 ∨ 0 < n by omega) with rfl | hn | hn
      · obtain rfl : bs = [] := by rw [HE.out]; exact tl_zero
        go_wp2_with fail
        go_ret
        rw [dec_zero]
        exact ⟨rfl, HB.out⟩
      · obtain ⟨u, rfl⟩ : ∃ u : Nat, n = -(u : Int) := ⟨n.natAbs, by omega⟩
        have hbp : 0 < bs.length := by
          rw [HE.out, Int.natAbs_neg, Int.natAbs_natCast, tl_pos (by omega)]
          simp
        have HD : Hid ({ data := #[45] } ++ strOf bs = dec (-(u : Int))) := Lib.hid (by rw [HE.out, Int.natAbs_neg, Int.natAbs_natCast]; exact dec_neg (by omega))
        have hsz : (strOf bs).size ≤ 20 := by
          rw [strOf_eq]
          show (List.toArray _).size ≤ 20
          simp; omega
        obtain ⟨z, hz, -, hadd⟩ := cat (x := { data := #[45] }) (y := strOf bs) (a := 1) (b := 20) (by decide) hsz (by decide)
        rw [HD.out] at hz
        subst hz
        go_wp2_with fail
        go_ret
        exact ⟨rfl, HB.out⟩
      · obtain ⟨u, rfl⟩ : ∃ u : Nat, n = (u : Int) := ⟨n.natAbs, by omega⟩
        have hbp : 0 < bs.length := by
          rw [HE.out, Int.natAbs_natCast, tl_pos (by omega)]
          simp
        have HD : Hid (strOf bs = dec (u : Int)) := Lib.hid (by rw [HE.out, Int.natAbs_natCast]; exact dec_pos (by omega))
        rw [HD.out] at hs
        go_wp2_with fail
        go_ret
        exact ⟨rfl, HB.out⟩
    · have hx1 : (x == 0) = false := by simpa using hx
      obtain ⟨d, y, hd, hy, d1, d2, d3, d4, y1, y2, y3, y4⟩ := tm_facts x hx x0 x1
      have HY := Lib.hid (And.intro y1 y2)
      have HT2 : Hid (tl y.natAbs ++ ((48 + x.natAbs % 10 : Nat) : Int) :: bs = tl n.natAbs) := Lib.hid (by
        have := HT.out
        rw [tl_pos (by omega), List.append_assoc] at this
        rw [y1]
        exact this)
      by_cases hdn : d < 0
      · have HDG : Hid (48 + -d = ((48 + x.natAbs % 10 : Nat) : Int)) := Lib.hid (by have := d1 hdn; omega)
        clear d1 d2 y1 y2
        generalize ((48 + x.natAbs % 10 : Nat) : Int) = dg at *
        have ho2 : OwR 5 1 (wr.alloc (.cells #[.int .u8 (48 + -d)] 5)) wr.heap.size (wr.alloc (.cells #[.int .u8 (48 + -d)] 5)).heap.size (.slice (some ⟨wr.heap.size, 0, none⟩) 1 1) 1 [.int .u8 (48 + -d)] :=
          OwR.lit _ _ _
        have hc2 := HSRC.out (wr.alloc (.cells #[.int .u8 (48 + -d)] 5)) (al1 _ _)
        have HO2 := Lib.hid ho2
        have HC2 := Lib.hid hc2
        clear ho2 hc2
        go_wp2_with (at_builtin; refine wpList_append_rowT Tryz.underlying28 u8t_info rfl (by decide) (by decide) rfl (.tmp 21) (.tmp 22) rfl _ _ _ A bs.length cap _ 1 [.int .u8 (48 + -d)] (bvals bs) rfl rfl HA.out HC2.out HO2.out (by simp) (by omega) (by rw [bvals_len, Nat.mul_one]) (by intro u hu; simp only [bvals, List.mem_map] at hu; obtain ⟨z, -, rfl⟩ := hu; rfl) ?_; intro v1 w2 hO2 hg2 _)
        have hO3 : OwR 5 1 w2 w.heap.size w2.heap.size v1 (dg :: bs).length (bvals (dg :: bs)) := by
          rw [HDG.out, Nat.add_comm] at hO2
          exact hO2.mono hbz (Nat.le_refl _)
        have hB3 : Below w.heap.size w w2 := HB.out.trans (((al1 wr _).mono hbz).trans (HO2.out.grown hg2 hbz (by simp; omega)))
        go_roundw
        case rel => exact ⟨y, dg :: bs, hO3, rfl, ⟨y3, y4⟩, HT2.out, hB3⟩
        case measure => simp only [intOf]; exact HY.out.2
      · have HDG : Hid (48 + d = ((48 + x.natAbs % 10 : Nat) : Int)) := Lib.hid (by have := d2 (by omega); omega)
        clear d1 d2 y1 y2
        generalize ((48 + x.natAbs % 10 : Nat) : Int) = dg at *
        have ho2 : OwR 5 1 (wr.alloc (.cells #[.int .u8 (48 + d)] 5)) wr.heap.size (wr.alloc (.cells #[.int .u8 (48 + d)] 5)).heap.size (.slice (some ⟨wr.heap.size, 0, none⟩) 1 1) 1 [.int .u8 (48 + d)] :=
          OwR.lit _ _ _
        have hc2 := HSRC.out (wr.alloc (.cells #[.int .u8 (48 + d)] 5)) (al1 _ _)
        have HO2 := Lib.hid ho2
        have HC2 := Lib.hid hc2
        clear ho2 hc2
        go_wp2_with (at_builtin; refine wpList_append_rowT Tryz.underlying28 u8t_info rfl (by decide) (by decide) rfl (.tmp 21) (.tmp 22) rfl _ _ _ A bs.length cap _ 1 [.int .u8 (48 + d)] (bvals bs) rfl rfl HA.out HC2.out HO2.out (by simp) (by omega) (by rw [bvals_len, Nat.mul_one]) (by intro u hu; simp only [bvals, List.mem_map] at hu; obtain ⟨z, -, rfl⟩ := hu; rfl) ?_; intro v1 w2 hO2 hg2 _)
        have hO3 : OwR 5 1 w2 w.heap.size w2.heap.size v1 (dg :: bs).length (bvals (dg :: bs)) := by
          rw [HDG.out, Nat.add_comm] at hO2
          exact hO2.mono hbz (Nat.le_refl _)
        have hB3 : Below w.heap.size w w2 := HB.out.trans (((al1 wr _).mono hbz).trans (HO2.out.grown hg2 hbz (by simp; omega)))
        go_roundw
        case rel => exact ⟨y, dg :: bs, hO3, rfl, ⟨y3, y4⟩, HT2.out, hB3⟩
        case measure => simp only [intOf]; exact HY.out.2
end Go.Proofs.YtgmppfhokfifgaaGreatDoor
