/-
  Contracts: PassText of the program and of the reference. Printed by gen_txp.py.
-/
import Derived.Test.YtgmppfhokfifgaaGreatDoorTxd
import Derived.Test.YtgmppfhokfifgaaGreatDoorSt
import Derived.Test.YtgmppfhokfifgaaGreatDoorPass
import Derived.Deep.RegionHeld3
import Derived.Deep.DeepCutAuto
namespace Go.Proofs.YtgmppfhokfifgaaGreatDoor
set_option maxRecDepth 10000
open Go.RowKit Go.Sort

/-- The sign of a direction. -/
def dirS (d : Int) : ByteArray := if d = 1 then { data := #[62] } else { data := #[60] }
theorem dirS_size (d : Int) : (dirS d).size ≤ 1 := by unfold dirS; split <;> decide
theorem l08Dir_any (d : Int) (w : World) : Calls Tryz.prog 101 #[.int .i64 d] w fun e w' => e = .returned (.string (dirS d)) ∧ Below w.heap.size w w' := by
  by_cases h : d = 1
  · subst h
    go_enter Tryz.func101, Tryz.ntmps101
    go_wp2_with fail
    go_ret
    exact ⟨rfl, Below.refl _ _⟩
  · have h1 : (d == 1) = false := by simpa using h
    have HS : Hid (dirS d = { data := #[60] }) := Lib.hid (if_neg h)
    go_enter Tryz.func101, Tryz.ntmps101
    go_wp2_with fail
    go_ret
    rw [HS.out]
    exact ⟨rfl, Below.refl _ _⟩
theorem directionText_any (d : Int) (w : World) : Calls Tryz.prog 53 #[.int .i64 d] w fun e w' => e = .returned (.string (dirS d)) ∧ Below w.heap.size w w' := by
  by_cases h : d = 1
  · subst h
    go_enter Tryz.func53, Tryz.ntmps53
    go_wp2_with fail
    go_ret
    exact ⟨rfl, Below.refl _ _⟩
  · have h1 : (d == 1) = false := by simpa using h
    have HS : Hid (dirS d = { data := #[60] }) := Lib.hid (if_neg h)
    go_enter Tryz.func53, Tryz.ntmps53
    go_wp2_with fail
    go_ret
    rw [HS.out]
    exact ⟨rfl, Below.refl _ _⟩
/-- The text of a pass: its head and its tail. -/
def passH (k d c : Int) : ByteArray := if k = 1 then ({ data := #[121, 97, 114, 110, 32] } ++ dirS d ++ { data := #[32] }) ++ dec c else if k = 2 then { data := #[120, 102, 101, 114] } else { data := #[100, 114, 111, 112] }
def passT (k d c r f n : Int) : ByteArray := (((((passH k d c ++ { data := #[32, 114, 97, 99, 107, 32] }) ++ dec r) ++ { data := #[32, 111, 112, 115, 32] }) ++ dec f) ++ { data := #[32, 116, 111, 32] }) ++ dec (f + n - 1)
def passR (k d c r f n : Int) : ByteArray := if vPass k d c r f n then passT k d c r f n else { data := #[] }
theorem vPass_bd {k d c r f n : Int} (h : vPass k d c r f n = true) : (-3 ≤ r ∧ r ≤ 3) ∧ (0 ≤ f ∧ f ≤ 1499) ∧ (1 ≤ n ∧ n ≤ 1500 - f) ∧ (0 ≤ c ∧ c ≤ 4) ∧ (k = 1 ∨ k = 2 ∨ k = 3) := by
  simp only [vPass, Bool.and_eq_true, inR_iff] at h
  obtain ⟨⟨⟨a, b⟩, e⟩, g⟩ := h
  refine ⟨a, b, e, ?_⟩
  split at g
  · simp only [Bool.and_eq_true, inR_iff] at g
    omega
  · simp only [Bool.and_eq_true, inR_iff, beq_iff_eq] at g
    omega
theorem box6T {w : World} {g : Nat} {a b c d e f : Value} {t : TypeId} (hx : w.heap[g]? = some (.cells #[a, b, c, d, e, f] t)) :
    (w.cell? ⟨g, 0, none⟩ = some a ∧ w.cell? ⟨g, 1, none⟩ = some b ∧ w.cell? ⟨g, 2, none⟩ = some c ∧ w.cell? ⟨g, 3, none⟩ = some d ∧ w.cell? ⟨g, 4, none⟩ = some e ∧ w.cell? ⟨g, 5, none⟩ = some f) ∧ g < w.heap.size :=
  ⟨⟨cell_of_row w g 0 _ t (0, 0) hx, cell_of_row w g 1 _ t (0, 0) hx, cell_of_row w g 2 _ t (0, 0) hx, cell_of_row w g 3 _ t (0, 0) hx, cell_of_row w g 4 _ t (0, 0) hx, cell_of_row w g 5 _ t (0, 0) hx⟩, heap_lt hx⟩
end Go.Proofs.YtgmppfhokfifgaaGreatDoor
