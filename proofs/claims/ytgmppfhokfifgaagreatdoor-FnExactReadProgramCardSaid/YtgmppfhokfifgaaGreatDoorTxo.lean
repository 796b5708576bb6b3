/-
  Words of operations: definitions and the small contracts. Printed by gen_txo.py.
-/
import Derived.Test.YtgmppfhokfifgaaGreatDoorTxp
import Derived.Test.YtgmppfhokfifgaaGreatDoorSjn
namespace Go.Proofs.YtgmppfhokfifgaaGreatDoor
set_option maxRecDepth 10000
open Go.RowKit Go.Sort

/-- The words of the kinds. -/
def kwL : List ByteArray := [{ data := #[] }, { data := #[107, 110, 105, 116] }, { data := #[116, 117, 99, 107] }, { data := #[109, 105, 115, 115] }, { data := #[120, 102, 101, 114] }, { data := #[115, 112, 108, 105, 116] }, { data := #[100, 114, 111, 112] }, { data := #[114, 97, 99, 107] }, { data := #[105, 110] }, { data := #[111, 117, 116] }]
def kw (k : Nat) : ByteArray := kwL.getD k { data := #[] }
theorem kw_size (k : Nat) : (kw k).size ≤ 5 := by
  unfold kw
  by_cases h : k < 10
  · rcases (show k = 0 ∨ k = 1 ∨ k = 2 ∨ k = 3 ∨ k = 4 ∨ k = 5 ∨ k = 6 ∨ k = 7 ∨ k = 8 ∨ k = 9 by omega) with rfl | rfl | rfl | rfl | rfl | rfl | rfl | rfl | rfl | rfl <;> decide
  · rw [List.getD, List.getElem?_eq_none (by simp [kwL]; omega)]
    decide
def bl : ByteArray := { data := #[32] }
theorem bl_size : bl.size ≤ 1 := by decide
/-- The text of a needle. -/
def ndS (b a : Int) : ByteArray := (if b = 1 then { data := #[102] } else { data := #[98] }) ++ dec a
theorem ndS_size {b a : Int} (h : I64 a) : (ndS b a).size ≤ 22 := by
  unfold ndS
  rw [ByteArray.size_append]
  have := dec_size h
  split
  · have : (ByteArray.mk #[102]).size = 1 := rfl
    omega
  · have : (ByteArray.mk #[98]).size = 1 := rfl
    omega
/-- Words with blanks between them. -/
def joinB (ws : List ByteArray) : ByteArray := ⟨(Lib.join (ws.map (·.data.toList)) [32]).toArray⟩
theorem ba_ext {a b : ByteArray} (h : a.data.toList = b.data.toList) : a = b := ByteArray.ext (Array.toList_inj.1 h)
theorem join1 (a : ByteArray) : joinB [a] = a := ba_ext (by simp [joinB, Lib.join, List.intercalate])
theorem join_snoc (ws : List ByteArray) (y : ByteArray) (h : ws ≠ []) : joinB (ws ++ [y]) = (joinB ws ++ bl) ++ y := by
  apply ba_ext
  simp only [joinB, Lib.join, ByteArray.data_append, List.map_append, List.map_cons, List.map_nil, Array.toList_append, bl]
  induction ws with
  | nil => exact absurd rfl h
  | cons x r ih =>
    cases r with
    | nil => simp [List.intercalate]
    | cons z r =>
      have := ih (by simp)
      simp only [List.intercalate, List.map_cons, List.cons_append, List.intersperse_cons_cons, List.flatten_cons] at this ⊢
      simp only [List.append_assoc] at this ⊢
      rw [this]
      simp
theorem join2 (a b : ByteArray) : joinB [a, b] = (a ++ bl) ++ b := by rw [show [a, b] = [a] ++ [b] from rfl, join_snoc _ _ (by simp), join1]
theorem join3 (a b c : ByteArray) : joinB [a, b, c] = (((a ++ bl) ++ b) ++ bl) ++ c := by rw [show [a, b, c] = [a, b] ++ [c] from rfl, join_snoc _ _ (by simp), join2]
theorem join4 (a b c d : ByteArray) : joinB [a, b, c, d] = (((((a ++ bl) ++ b) ++ bl) ++ c) ++ bl) ++ d := by rw [show [a, b, c, d] = [a, b, c] ++ [d] from rfl, join_snoc _ _ (by simp), join3]
theorem join5 (a b c d e : ByteArray) : joinB [a, b, c, d, e] = (((((((a ++ bl) ++ b) ++ bl) ++ c) ++ bl) ++ d) ++ bl) ++ e := by rw [show [a, b, c, d, e] = [a, b, c, d] ++ [e] from rfl, join_snoc _ _ (by simp), join4]
/-- The text of an operation. -/
def opW (k d fb fa tb ta c r : Int) : List ByteArray :=
  kw k.toNat :: ((if d = 0 then [] else [dirS d]) ++ (if fb = 0 then [] else [ndS fb fa]) ++ (if tb = 0 then [] else [ndS tb ta]) ++ (if c = 0 then [] else [dec c]) ++ (if k = 7 then [dec r] else []))
def opTx (k d fb fa tb ta c r : Int) : ByteArray := joinB (opW k d fb fa tb ta c r)
set_option maxHeartbeats 1600000 in
theorem l01Text_any (b : Int) {a : Int} (h : I64 a) {w : World} : Calls Tryz.prog 98 #[.agg #[.int .i64 b, .int .i64 a]] w fun e w' => e = .returned (.string (ndS b a)) ∧ Below w.heap.size w w' := by
  have HB := Lib.hid (al1 w (.cells #[.int .i64 b, .int .i64 a] 36))
  have HC := Lib.hid (fun W => fun (_ : True) => l01Dec_any h W)
  by_cases hb : b = 1
  · subst hb
    obtain ⟨z, hz, -, hadd⟩ := cat (x := { data := #[102] }) (y := dec a) (a := 1) (b := 21) (by decide) (dec_size h) (by decide)
    have HZ : Hid (z = ndS 1 a) := Lib.hid hz
    clear hz h
    go_enter Tryz.func98, Tryz.ntmps98
    go_wp2_with fail
    refine (HC.out _ trivial).mono ?_
    rintro e w1 ⟨rfl, hq⟩
    have HB1 := Lib.hid (HB.out.trans (hq.mono (by simp)))
    clear hq
    go_wp2_with fail
    go_ret
    rw [HZ.out]
    exact ⟨rfl, HB1.out⟩
  · have hb1 : (b == 1) = false := by simpa using hb
    obtain ⟨z, hz, -, hadd⟩ := cat (x := { data := #[98] }) (y := dec a) (a := 1) (b := 21) (by decide) (dec_size h) (by decide)
    have HZ : Hid (z = ndS b a) := Lib.hid (by rw [hz, ndS, if_neg hb])
    clear hz h
    go_enter Tryz.func98, Tryz.ntmps98
    go_wp2_with fail
    refine (HC.out _ trivial).mono ?_
    rintro e w1 ⟨rfl, hq⟩
    have HB1 := Lib.hid (HB.out.trans (hq.mono (by simp)))
    clear hq
    go_wp2_with fail
    go_ret
    rw [HZ.out]
    exact ⟨rfl, HB1.out⟩
set_option maxHeartbeats 1600000 in
theorem needleText_any (b : Int) {a : Int} (h : I64 a) {w : World} (ht : Tab w) : Calls Tryz.prog 54 #[.agg #[.int .i64 b, .int .i64 a]] w fun e w' => e = .returned (.string (ndS b a)) ∧ Below w.heap.size w w' := by
  have HB := Lib.hid (al1 w (.cells #[.int .i64 b, .int .i64 a] 36))
  have HC := Lib.hid (fun W => fun (hW : Tab W) => Decimal_any h hW)
  have HT := Lib.hid ht
  clear ht
  by_cases hb : b = 1
  · subst hb
    obtain ⟨z, hz, -, hadd⟩ := cat (x := { data := #[102] }) (y := dec a) (a := 1) (b := 21) (by decide) (dec_size h) (by decide)
    have HZ : Hid (z = ndS 1 a) := Lib.hid hz
    clear hz h
    go_enter Tryz.func54, Tryz.ntmps54
    go_wp2_with fail
    refine (HC.out _ (HT.out.below HB.out)).mono ?_
    rintro e w1 ⟨rfl, hq⟩
    have HB1 := Lib.hid (HB.out.trans (hq.mono (by simp)))
    clear hq
    go_wp2_with fail
    go_ret
    rw [HZ.out]
    exact ⟨rfl, HB1.out⟩
  · have hb1 : (b == 1) = false := by simpa using hb
    obtain ⟨z, hz, -, hadd⟩ := cat (x := { data := #[98] }) (y := dec a) (a := 1) (b := 21) (by decide) (dec_size h) (by decide)
    have HZ : Hid (z = ndS b a) := Lib.hid (by rw [hz, ndS, if_neg hb])
    clear hz h
    go_enter Tryz.func54, Tryz.ntmps54
    go_wp2_with fail
    refine (HC.out _ (HT.out.below HB.out)).mono ?_
    rintro e w1 ⟨rfl, hq⟩
    have HB1 := Lib.hid (HB.out.trans (hq.mono (by simp)))
    clear hq
    go_wp2_with fail
    go_ret
    rw [HZ.out]
    exact ⟨rfl, HB1.out⟩
set_option maxHeartbeats 1600000 in
theorem l08Words_any (w : World) : Calls Tryz.prog 69 #[] w fun e w' => ∃ g, e = .returned (.slice (some ⟨g, 0, none⟩) 10 10) ∧ (∀ j, j < 10 → w'.cell? ⟨g, j, none⟩ = some (.string (kw j))) ∧ Below w.heap.size w w' := by
  go_enter Tryz.func69, Tryz.ntmps69
  go_wp2_with fail
  go_ret
  refine ⟨_, rfl, fun j hj => ?_, al1 _ _⟩
  rw [cell_of_row _ _ j _ _ (0, 0) (alloc_at_ w _)]
  rcases (show j = 0 ∨ j = 1 ∨ j = 2 ∨ j = 3 ∨ j = 4 ∨ j = 5 ∨ j = 6 ∨ j = 7 ∨ j = 8 ∨ j = 9 by omega) with rfl | rfl | rfl | rfl | rfl | rfl | rfl | rfl | rfl | rfl <;> rfl
set_option maxHeartbeats 1600000 in
theorem opWords_any (w : World) : Calls Tryz.prog 52 #[] w fun e w' => ∃ g, e = .returned (.slice (some ⟨g, 0, none⟩) 10 10) ∧ (∀ j, j < 10 → w'.cell? ⟨g, j, none⟩ = some (.string (kw j))) ∧ Below w.heap.size w w' := by
  go_enter Tryz.func52, Tryz.ntmps52
  go_wp2_with fail
  go_ret
  refine ⟨_, rfl, fun j hj => ?_, al1 _ _⟩
  rw [cell_of_row _ _ j _ _ (0, 0) (alloc_at_ w _)]
  rcases (show j = 0 ∨ j = 1 ∨ j = 2 ∨ j = 3 ∨ j = 4 ∨ j = 5 ∨ j = 6 ∨ j = 7 ∨ j = 8 ∨ j = 9 by omega) with rfl | rfl | rfl | rfl | rfl | rfl | rfl | rfl | rfl | rfl <;> rfl
end Go.Proofs.YtgmppfhokfifgaaGreatDoor
