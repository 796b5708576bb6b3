/-
  Contracts: the laws' marks on descriptions of loops and on carriers.
-/
import Derived.Test.YtbefioljddhhpaaMc4
namespace Go.Proofs.Ytbefioljddhhpaa
set_option maxRecDepth 10000
open Go.RowKit

def markK (c : Int) (n : Nat) : List (Bool × Int) := (List.range n).map fun (i : Nat) => ((c + 2 * (i : Int)) % 3 == 0, c + 2 * (i : Int) + 1)
theorem markK_len (c : Int) (n : Nat) : (markK c n).length = n := by simp [markK]
theorem markK_gc {c : Int} {n k : Nat} (h : k < n) : gc (markK c n) k = ((c + 2 * (k : Int)) % 3 == 0, c + 2 * (k : Int) + 1) := by rw [gc_eq (by rw [markK_len]; exact h)]; simp [markK]
def markedK (c : Int) (D : List (Bool × Int)) (k : Nat) : List (Bool × Int) := markK c k ++ D.drop k
theorem markedK_zero (c : Int) (D : List (Bool × Int)) : markedK c D 0 = D := by simp [markedK, markK]
theorem markedK_all (c : Int) (D : List (Bool × Int)) : markedK c D D.length = markK c D.length := by simp [markedK]
theorem markedK_len (c : Int) (D : List (Bool × Int)) (k : Nat) (h : k ≤ D.length) : (markedK c D k).length = D.length := by simp [markedK, markK_len]; omega
theorem markedK_set (c : Int) (D : List (Bool × Int)) (k : Nat) (h : k < D.length) : (markedK c D k).set k ((c + 2 * (k : Int)) % 3 == 0, c + 2 * (k : Int) + 1) = markedK c D (k + 1) := by
  unfold markedK
  rw [List.set_append_right _ _ (by rw [markK_len]; exact Nat.le_refl _), markK_len, Nat.sub_self, List.drop_eq_getElem_cons h, List.set_cons_zero]
  simp [markK, List.range_succ]
set_option maxHeartbeats 1600000 in
theorem markCars_any {v : Value} {D : List (Bool × Int)} {S : Nat → Prop} {c : Int} {w : World} (h : OwC 78 2 w S v D.length (carC D)) (hS : ∀ b, S b → b < w.heap.size) (hsz : D.length ≤ 1048576) (hc0 : 0 ≤ c) (hc1 : c ≤ 1000000000) :
    Calls Try.prog 52 #[v, .int .i64 c] w fun e w' => e = .returned (.int .i64 (c + 2 * D.length)) ∧ OwC 78 2 w' S v D.length (carC (markK c D.length)) ∧ ChgS S w w' := by
  obtain ⟨A, cap, rfl, hl, hm, -⟩ := h.sl hS
  unfold maxLen at hm
  go_enter Try.func52, Try.ntmps52
  go_wp2
  go_loopw [1, 5] (fun x i wr => ∃ k : Nat, k ≤ D.length ∧ i = .int .i64 k ∧ x = .int .i64 (c + 2 * k) ∧ OwC 78 2 wr S (.slice A D.length cap) D.length (carC (markedK c D k)) ∧ ChgS S w wr) (fun _ i _ => D.length - (intOf i).toNat)
  case atStart => exact ⟨0, Nat.zero_le _, rfl, by simp, by rw [markedK_zero]; exact h, ChgS.refl _ _⟩
  case round =>
    obtain ⟨k, hk, rfl, rfl, hO, hb⟩ := hrel
    by_cases hlt : k < D.length
    · have hlm := markedK_len c D k hk
      obtain ⟨x, hx⟩ : ∃ x, (carC (markedK c D k))[k * 2]? = some x := ⟨_, List.getElem?_eq_getElem (by rw [carC_len, hlm]; omega)⟩
      obtain ⟨g, cap', u, hv, -, -, -, -⟩ := hO.shape hx
      obtain ⟨rfl, rfl⟩ : A = some ⟨g, 0, none⟩ ∧ cap = cap' := by injection hv with h1 h2 h3; exact ⟨h1, h3⟩
      obtain ⟨hcs, W, hW, hO3, hch⟩ := hO.setK k (by rw [hlm]; exact hlt) ((c + 2 * (k : Int)) % 3 == 0) (c + 2 * (k : Int) + 1)
      obtain ⟨x0, t0, u0⟩ := hcs 0 (by omega)
      obtain ⟨x1, t1, u1⟩ := hcs 1 (by omega)
      rw [Nat.add_zero] at t0 u0
      have HSET := Lib.hid (markedK_set c D k hlt)
      generalize hD : c + 2 * (k : Int) = E at *
      have hD0 : 0 ≤ E ∧ E ≤ 1010000000 := by omega
      obtain ⟨d0, d1⟩ := hD0
      have HW := Lib.hid hW
      have HO3 := Lib.hid hO3
      have HCH := Lib.hid (hb.trans hch)
      have HD := Lib.hid hD
      clear hcs hW hO3 hch hD hx hv hO hb hlm
      go_wp2_with fail
      go_roundw
      case rel =>
        rw [← HW.out]
        have h3 := HO3.out
        rw [HSET.out] at h3
        exact ⟨k + 1, by omega, by go_num, by rw [← HD.out]; go_num, h3, HCH.out⟩
      case measure => simp [intOf]; omega
    · obtain rfl : k = D.length := by omega
      rw [markedK_all] at hO
      go_wp2
      go_ret
      exact ⟨rfl, hO, hb⟩
set_option maxHeartbeats 1600000 in
theorem heldCars_any {v : Value} {n : Nat} {B : Nat} {c : Int} {w : World} (h : SlK w B v (markK c n)) (hsz : n ≤ 1048576) (hc0 : 0 ≤ c) (hc1 : c ≤ 1000000000) :
    Calls Try.prog 55 #[v, .int .i64 c] w fun e w' => e = .returned (.int .i64 (c + 2 * n)) ∧ Below w.heap.size w w' := by
  obtain ⟨A, cap, rfl, hl, hm, hc⟩ := h.cells
  rw [markK_len] at hl hc ⊢
  have HC := Lib.hid hc
  clear hc h
  go_enter Try.func55, Try.ntmps55
  go_wp2
  go_loopw [1, 5] (fun x i wr => ∃ k : Nat, k ≤ n ∧ i = .int .i64 k ∧ x = .int .i64 (c + 2 * k) ∧ wr = w) (fun _ i _ => n - (intOf i).toNat)
  case atStart => exact ⟨0, Nat.zero_le _, rfl, by simp, rfl⟩
  case round =>
    obtain ⟨k, hk, rfl, rfl, rfl⟩ := hrel
    by_cases hlt : k < n
    · obtain ⟨b, off, rfl, hbB, hcell⟩ := HC.out (by omega)
      obtain ⟨q0, q1⟩ := hcell k hlt
      rw [markK_gc hlt] at q0 q1
      clear hcell
      generalize hD : c + 2 * (k : Int) = E at *
      have hD0 : 0 ≤ E ∧ E ≤ 1010000000 := by omega
      obtain ⟨d0, d1⟩ := hD0
      have HD := Lib.hid hD
      clear hD
      have t1 : ((E % 3 == 0) != (E % 3 == 0)) = false := by simp
      go_wp2_with fail
      go_roundw
      case rel => exact ⟨k + 1, by omega, by go_num, by rw [← HD.out]; go_num, trivial⟩
      case measure => simp [intOf]; omega
    · obtain rfl : k = n := by omega
      go_wp2
      go_ret
      exact ⟨rfl, Below.refl _ _⟩
end Go.Proofs.Ytbefioljddhhpaa
