/-
  Contracts: decimal forms (the reference's l01Dec, the program's Decimal).
-/
import Derived.Test.YtgmppfhokfifgaaGreatDoorOwr
import Derived.Test.YtgmppfhokfifgaaGreatDoorGsh
import Derived.Test.YtgmppfhokfifgaaGreatDoorSmall
import Derived.Lib.ItoaLen
import Derived.Lib.AppendIntMem
import Derived.WalkSmall
import Derived.Laws.Concat
import Derived.Test.YtgmppfhokfifgaaGreatDoorSt
import Derived.BigGuardPart
import Derived.Deep.RegionHeld3
import Derived.Deep.DeepCutAuto
namespace Go.Proofs.YtgmppfhokfifgaaGreatDoor
set_option maxRecDepth 10000
open Go.RowKit Go.Sort

/-- The decimal form of a number. -/
def dec (n : Int) : ByteArray := ⟨(Lib.itoa n).toArray⟩
def I64 (n : Int) : Prop := -9223372036854775808 ≤ n ∧ n ≤ 9223372036854775807
theorem dec_size {n : Int} (h : I64 n) : (dec n).size ≤ 21 := by
  show (Lib.itoa n).toArray.size ≤ 21
  rw [List.size_toArray]
  exact Lib.itoa_length_le n h.1 h.2
/-- The table that FormatInt reads. -/
def Tab (w : World) : Prop := Lib.TabIs Tryz.prog w "internal/strconv.uint64pow10" .u64 Lib.pow10Tab
theorem var_fwd {P : Program} {w w' : World} {n : String} {cs : Array Value} (hb : Below w.heap.size w w') (h : w.var? P n = some cs) : w'.var? P n = some cs := by
  unfold World.var? at h ⊢
  cases hg : P.globalNamed n with
  | none => rw [hg] at h; simp at h
  | some g =>
    rw [hg] at h
    simp only [Option.bind_some] at h ⊢
    cases hx : w.heap[g]? with
    | none => rw [hx] at h; simp at h
    | some o =>
      have hlt : g < w.heap.size := (Array.getElem?_eq_some_iff.1 hx).1
      rw [hb.block g hlt, hx]
      rw [hx] at h
      exact h
theorem Tab.below {w w' : World} (h : Tab w) (hb : Below w.heap.size w w') : Tab w' := var_fwd hb h
/-- Strings are put together. -/
theorem cat {x y : ByteArray} {a b : Nat} (hx : x.size ≤ a) (hy : y.size ≤ b) (hab : a + b ≤ 1000000000) : ∃ z : ByteArray, z = x ++ y ∧ z.size ≤ a + b ∧ ∀ w : World, (Op.stringOp .add x y).run Tryz.prog w = .ok (.string z) w :=
  ⟨x ++ y, rfl, by rw [ByteArray.size_append]; omega, fun w => run_string_add_sum w x y (by omega)⟩
theorem grow_below (w : World) (k : Nat) (os : Array Obj) : Below w.heap.size w (grow (w.drewN k) os) := Lib.below_grow _ _ (Nat.le_refl _) k os
theorem Decimal_any {n : Int} (h : I64 n) {w : World} (ht : Tab w) : Calls Tryz.prog 30 #[.int .i64 n] w fun e w' => e = .returned (.string (dec n)) ∧ Below w.heap.size w w' := by
  have HT := Lib.hid ht
  clear ht
  go_enter Tryz.func30, Tryz.ntmps30
  go_wp2_with fail
  refine (Tryz.strconv_FormatInt_10 n h.1 h.2 w HT.out).mono ?_
  rintro e w' ⟨rfl, k, os, rfl⟩
  go_wp2_with fail
  go_ret
  exact ⟨rfl, grow_below _ _ _⟩
/-- A row of the call's own as a source of append. -/
theorem OwR.src {e : TypeId} {w : World} {lo hi : Nat} {v : Value} {n : Nat} {us : List Value} (h : OwR e 1 w lo hi v n us) :
    ∃ A cap, v = .slice A n cap ∧ (A = none → n = 0 ∧ cap = 0) ∧ ∀ w', Below hi w w' → ∀ ad, A = some ad → ∀ (j : Nat) (u : Value), us[j]? = some u → w'.cell? (ad.add j) = some u := by
  rcases h.form with ⟨rfl, rfl, -⟩ | ⟨g, cap, rfl, -, hg, -, -, -, hc⟩
  · exact ⟨none, 0, rfl, fun _ => ⟨rfl, rfl⟩, fun _ _ ad e => by cases e⟩
  · refine ⟨_, cap, rfl, (fun e => by cases e), fun w' hb ad e j u hu => ?_⟩
    cases e
    rw [Addr.add_lit, Nat.zero_add, hb.cell (by simpa using hg)]
    exact hc j u hu
theorem OwR.lit (e : TypeId) (w : World) (u : Value) : OwR e 1 (w.alloc (.cells #[u] e)) w.heap.size (w.alloc (.cells #[u] e)).heap.size (.slice (some ⟨w.heap.size, 0, none⟩) 1 1) 1 [u] :=
  OwR.of_own ⟨by simp, .inr ⟨w.heap.size, 1, #[u], rfl, Nat.le_refl _, by unfold World.alloc; simp only []; rw [Array.getElem?_push_size], Nat.le_refl _, by simp [maxLen], by simp, by simp⟩⟩
end Go.Proofs.YtgmppfhokfifgaaGreatDoor
/-
  Contracts: PassText of the program and of the reference. Printed by gen_txp.py.
-/
namespace Go.Proofs.YtgmppfhokfifgaaGreatDoor
set_option maxRecDepth 10000
open Go.RowKit Go.Sort

/-- The sign of a direction. -/
def dirS (d : Int) : ByteArray := if d = 1 then { data := #[62] } else { data := #[60] }
theorem dirS_size (d : Int) : (dirS d).size ≤ 1 := by unfold dirS; split <;> decide
theorem directionText_any (d : Int) (w : World) : Calls Tryz.prog 53 #[.int .i64 d] w fun e w' => e = .returned (.string (dirS d)) ∧ Below w.heap.size w w' := by
  by_cases h : d = 1
  · subst h
    go_enter Tryz.func53, Tryz.ntmps53
    go_wp2_with fail
    go_ret
    exact ⟨rfl, Below.refl _ _⟩
  · have h1 : (d == 1) = false := by simpa using h
    have HS : Hid (dirS d = { data := #[60] }) := Lib.hid (if_neg h)
    go_enter Tryz.func53, Tryz.ntmps53
    go_wp2_with fail
    go_ret
    rw [HS.out]
    exact ⟨rfl, Below.refl _ _⟩
end Go.Proofs.YtgmppfhokfifgaaGreatDoor
/-
  Words of operations: definitions and the small contracts. Printed by gen_txo.py.
-/
namespace Go.Proofs.YtgmppfhokfifgaaGreatDoor
set_option maxRecDepth 10000
open Go.RowKit Go.Sort

/-- The words of the kinds. -/
def kwL : List ByteArray := [{ data := #[] }, { data := #[107, 110, 105, 116] }, { data := #[116, 117, 99, 107] }, { data := #[109, 105, 115, 115] }, { data := #[120, 102, 101, 114] }, { data := #[115, 112, 108, 105, 116] }, { data := #[100, 114, 111, 112] }, { data := #[114, 97, 99, 107] }, { data := #[105, 110] }, { data := #[111, 117, 116] }]
def kw (k : Nat) : ByteArray := kwL.getD k { data := #[] }
theorem kw_size (k : Nat) : (kw k).size ≤ 5 := by
  unfold kw
  by_cases h : k < 10
  · rcases (show k = 0 ∨ k = 1 ∨ k = 2 ∨ k = 3 ∨ k = 4 ∨ k = 5 ∨ k = 6 ∨ k = 7 ∨ k = 8 ∨ k = 9 by omega) with rfl | rfl | rfl | rfl | rfl | rfl | rfl | rfl | rfl | rfl <;> decide
  · rw [List.getD, List.getElem?_eq_none (by simp [kwL]; omega)]
    decide
def bl : ByteArray := { data := #[32] }
/-- The text of a needle. -/
def ndS (b a : Int) : ByteArray := (if b = 1 then { data := #[102] } else { data := #[98] }) ++ dec a
theorem ndS_size {b a : Int} (h : I64 a) : (ndS b a).size ≤ 22 := by
  unfold ndS
  rw [ByteArray.size_append]
  have := dec_size h
  split
  · have : (ByteArray.mk #[102]).size = 1 := rfl
    omega
  · have : (ByteArray.mk #[98]).size = 1 := rfl
    omega
/-- Words with blanks between them. -/
def joinB (ws : List ByteArray) : ByteArray := ⟨(Lib.join (ws.map (·.data.toList)) [32]).toArray⟩
theorem ba_ext {a b : ByteArray} (h : a.data.toList = b.data.toList) : a = b := ByteArray.ext (Array.toList_inj.1 h)
/-- The text of an operation. -/
def opW (k d fb fa tb ta c r : Int) : List ByteArray :=
  kw k.toNat :: ((if d = 0 then [] else [dirS d]) ++ (if fb = 0 then [] else [ndS fb fa]) ++ (if tb = 0 then [] else [ndS tb ta]) ++ (if c = 0 then [] else [dec c]) ++ (if k = 7 then [dec r] else []))
def opTx (k d fb fa tb ta c r : Int) : ByteArray := joinB (opW k d fb fa tb ta c r)
set_option maxHeartbeats 1600000 in
theorem needleText_any (b : Int) {a : Int} (h : I64 a) {w : World} (ht : Tab w) : Calls Tryz.prog 54 #[.agg #[.int .i64 b, .int .i64 a]] w fun e w' => e = .returned (.string (ndS b a)) ∧ Below w.heap.size w w' := by
  have HB := Lib.hid (al1 w (.cells #[.int .i64 b, .int .i64 a] 36))
  have HC := Lib.hid (fun W => fun (hW : Tab W) => Decimal_any h hW)
  have HT := Lib.hid ht
  clear ht
  by_cases hb : b = 1
  · subst hb
    obtain ⟨z, hz, -, hadd⟩ := cat (x := { data := #[102] }) (y := dec a) (a := 1) (b := 21) (by decide) (dec_size h) (by decide)
    have HZ : Hid (z = ndS 1 a) := Lib.hid hz
    clear hz h
    go_enter Tryz.func54, Tryz.ntmps54
    go_wp2_with fail
    refine (HC.out _ (HT.out.below HB.out)).mono ?_
    rintro e w1 ⟨rfl, hq⟩
    have HB1 := Lib.hid (HB.out.trans (hq.mono (by simp)))
    clear hq
    go_wp2_with fail
    go_ret
    rw [HZ.out]
    exact ⟨rfl, HB1.out⟩
  · have hb1 : (b == 1) = false := by simpa using hb
    obtain ⟨z, hz, -, hadd⟩ := cat (x := { data := #[98] }) (y := dec a) (a := 1) (b := 21) (by decide) (dec_size h) (by decide)
    have HZ : Hid (z = ndS b a) := Lib.hid (by rw [hz, ndS, if_neg hb])
    clear hz h
    go_enter Tryz.func54, Tryz.ntmps54
    go_wp2_with fail
    refine (HC.out _ (HT.out.below HB.out)).mono ?_
    rintro e w1 ⟨rfl, hq⟩
    have HB1 := Lib.hid (HB.out.trans (hq.mono (by simp)))
    clear hq
    go_wp2_with fail
    go_ret
    rw [HZ.out]
    exact ⟨rfl, HB1.out⟩
set_option maxHeartbeats 1600000 in
theorem opWords_any (w : World) : Calls Tryz.prog 52 #[] w fun e w' => ∃ g, e = .returned (.slice (some ⟨g, 0, none⟩) 10 10) ∧ (∀ j, j < 10 → w'.cell? ⟨g, j, none⟩ = some (.string (kw j))) ∧ Below w.heap.size w w' := by
  go_enter Tryz.func52, Tryz.ntmps52
  go_wp2_with fail
  go_ret
  refine ⟨_, rfl, fun j hj => ?_, al1 _ _⟩
  rw [cell_of_row _ _ j _ _ (0, 0) (alloc_at_ w _)]
  rcases (show j = 0 ∨ j = 1 ∨ j = 2 ∨ j = 3 ∨ j = 4 ∨ j = 5 ∨ j = 6 ∨ j = 7 ∨ j = 8 ∨ j = 9 by omega) with rfl | rfl | rfl | rfl | rfl | rfl | rfl | rfl | rfl | rfl <;> rfl
end Go.Proofs.YtgmppfhokfifgaaGreatDoor
