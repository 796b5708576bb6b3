/-
  Contracts: reducing a word (impl.reduced, spec.l03Reduce).
-/
import Derived.Test.YtcinnbkhnonijaaFree
import Derived.Test.YtcinnbkhnonijaaSlib
import Derived.Test.YtcinnbkhnonijaaFg
namespace Go.Proofs.Ytcinnbkhnonijaa
set_option maxRecDepth 10000
open Go.RowKit
end Go.Proofs.Ytcinnbkhnonijaa
/-
  Contract: the reference's l03Reduce.
-/
namespace Go.Proofs.Ytcinnbkhnonijaa
set_option maxRecDepth 10000
open Go.RowKit
end Go.Proofs.Ytcinnbkhnonijaa
/-
  Contracts: inverses, joins and cores of words.
-/
namespace Go.Proofs.Ytcinnbkhnonijaa
set_option maxRecDepth 10000
open Go.RowKit

theorem inv_drop {xs : List Int} {k : Nat} (h : k < xs.length) : inv (xs.drop k) = inv (xs.drop (k + 1)) ++ [-gi xs k] := by
  rw [drop_gi h]; simp [inv]
set_option maxHeartbeats 800000 in
theorem inverted_any (v : Value) (xs : List Int) (B : Nat) (w : World) (h : Sl w B v xs) (hB : B ≤ w.heap.size) (hsz : xs.length ≤ 1000000) (hbd : ∀ x ∈ xs, -1000 ≤ x ∧ x ≤ 1000) :
    Calls Try.prog 66 #[v] w fun e w' => ∃ r, e = .returned r ∧ Ow w' w.heap.size w'.heap.size r (inv xs) ∧ Below w.heap.size w w' := by
  obtain ⟨A, c, rfl, hl, hm, _, hcells⟩ := h
  unfold maxLen at hm
  have HC := Lib.hid hcells
  have HBD := Lib.hid hbd
  clear hcells hbd
  obtain ⟨i0, hi, hz0, hz1, hz2⟩ := info_parts i64_info
  have HI := Lib.hid hi
  have HZ := Lib.hid hz0
  clear hi hz0
  go_enter Try.func66, Try.ntmps66
  go_wp2_with (at_make; refine wpList_make_own _ rfl _ _ 24 rfl w.heap.size 2 i0 (.int .i64 0) 1 Try.underlying24 HI.out HZ.out hz1 _ _ _ xs.length rfl rfl rfl (by rw [hz2]; omega) (by unfold maxLen; omega) (Nat.le_refl _) ?_)
  intro w1 hown hg1
  have hO : Ow w1 w.heap.size w1.heap.size (.slice (some ⟨w.heap.size, 0, none⟩) 0 xs.length) (inv (xs.drop xs.length)) := Ow.of_own hown (by simp [inv]) (by simp [inv, vals])
  have hb1 : Below w.heap.size w w1 := (Below.refl _ _).grown hg1 (Nat.le_refl _) (by simp)
  clear hown hg1
  go_wp2
  go_loopw [3, 4] (fun o i wr => ∃ k : Nat, k ≤ xs.length ∧ i = .int .i64 (k - 1) ∧ Ow wr w.heap.size wr.heap.size o (inv (xs.drop k)) ∧ Below w.heap.size w wr) (fun _ i _ => (intOf i + 1).toNat)
  case atStart => exact ⟨xs.length, Nat.le_refl _, rfl, hO, hb1⟩
  case round =>
    obtain ⟨k, hk, rfl, hO, hb⟩ := hrel
    rcases Nat.eq_zero_or_pos k with rfl | hp
    · go_wp2
      go_ret
      exact ⟨_, rfl, hO, hb⟩
    · obtain ⟨j, rfl⟩ : ∃ j, k = j + 1 := ⟨k - 1, by omega⟩
      rw [show (((j + 1 : Nat) : Int) - 1) = (j : Int) by omega]
      have hlt : j < xs.length := by omega
      obtain ⟨b, off, rfl, hbB, hcell⟩ := HC.out (by omega)
      have q1 : wr.cell? ⟨b, off + j, none⟩ = some (.int .i64 (gi xs j)) := by rw [hb.cell (by simp only; omega)]; exact hcell j hlt
      obtain ⟨y1, y2⟩ := HBD.out _ (gi_mem hlt)
      have HS := Lib.hid (inv_drop hlt)
      have hl2 : (inv (xs.drop (j + 1))).length ≤ 1000000000 := by rw [inv_len]; simp; omega
      have hsz2 := hb.size
      clear hcell
      go_wp2_with (at_builtin; refine wpList_append_one rfl _ _ rfl _ _ _ _ _ (-gi xs j) rfl rfl hO hsz2 hl2 ?_; intro v1 w2 hO2 hg2 _)
      have hbw := hO.grown hg2 (Nat.le_refl _) hsz2
      go_roundw
      case rel => exact ⟨j, by omega, by go_num, by rw [HS.out]; exact hO2, hb.trans hbw⟩
      case measure => simp [intOf]
set_option maxHeartbeats 800000 in
theorem l03Inverse_any (v : Value) (xs : List Int) (B : Nat) (w : World) (h : Sl w B v xs) (hB : B ≤ w.heap.size) (hsz : xs.length ≤ 1000000) (hbd : ∀ x ∈ xs, -1000 ≤ x ∧ x ≤ 1000) :
    Calls Try.prog 58 #[v] w fun e w' => ∃ r, e = .returned r ∧ Ow w' w.heap.size w'.heap.size r (inv xs) ∧ Below w.heap.size w w' := by
  obtain ⟨A, c, rfl, hl, hm, _, hcells⟩ := h
  unfold maxLen at hm
  have HC := Lib.hid hcells
  have HBD := Lib.hid hbd
  clear hcells hbd
  have hO0 := Ow.empty w
  have hO : Ow (w.alloc (.cells #[] 2)) w.heap.size (w.alloc (.cells #[] 2)).heap.size (.slice (some ⟨w.heap.size, 0, none⟩) 0 0) (inv (xs.drop xs.length)) := by simpa [inv] using hO0
  have hb1 := al1 w (.cells #[] 2)
  clear hO0
  go_enter Try.func58, Try.ntmps58
  go_wp2
  go_loopw [3, 4] (fun o i wr => ∃ k : Nat, k ≤ xs.length ∧ i = .int .i64 (k - 1) ∧ Ow wr w.heap.size wr.heap.size o (inv (xs.drop k)) ∧ Below w.heap.size w wr) (fun _ i _ => (intOf i + 1).toNat)
  case atStart => exact ⟨xs.length, Nat.le_refl _, rfl, hO, hb1⟩
  case round =>
    obtain ⟨k, hk, rfl, hO, hb⟩ := hrel
    rcases Nat.eq_zero_or_pos k with rfl | hp
    · go_wp2
      go_ret
      exact ⟨_, rfl, hO, hb⟩
    · obtain ⟨j, rfl⟩ : ∃ j, k = j + 1 := ⟨k - 1, by omega⟩
      rw [show (((j + 1 : Nat) : Int) - 1) = (j : Int) by omega]
      have hlt : j < xs.length := by omega
      obtain ⟨b, off, rfl, hbB, hcell⟩ := HC.out (by omega)
      have q1 : wr.cell? ⟨b, off + j, none⟩ = some (.int .i64 (gi xs j)) := by rw [hb.cell (by simp only; omega)]; exact hcell j hlt
      obtain ⟨y1, y2⟩ := HBD.out _ (gi_mem hlt)
      have HS := Lib.hid (inv_drop hlt)
      have hl2 : (inv (xs.drop (j + 1))).length ≤ 1000000000 := by rw [inv_len]; simp; omega
      have hsz2 := hb.size
      clear hcell
      go_wp2_with (at_builtin; refine wpList_append_one rfl _ _ rfl _ _ _ _ _ (-gi xs j) rfl rfl hO hsz2 hl2 ?_; intro v1 w2 hO2 hg2 _)
      have hbw := hO.grown hg2 (Nat.le_refl _) hsz2
      go_roundw
      case rel => exact ⟨j, by omega, by go_num, by rw [HS.out]; exact hO2, hb.trans hbw⟩
      case measure => simp [intOf]
theorem pushAll_take {out xs : List Int} {k : Nat} (h : k < xs.length) : pushAll out (xs.take (k + 1)) = push (pushAll out (xs.take k)) (gi xs k) := by
  rw [take_gi h]; exact pushAll_snoc _ _ _
/-- The inverse of the reduced word, of a valid word; nothing of another. -/
def fInv (n : Int) (xs : List Int) : List Int := if okFree n xs = true then inv (red xs) else []
theorem fInv_len (n : Int) (xs : List Int) : (fInv n xs).length ≤ xs.length := by
  unfold fInv; split
  · rw [inv_len]; exact red_len xs
  · simp
theorem red_bd {n : Int} {xs : List Int} (h : okFree n xs = true) : ∀ x ∈ red xs, -1000 ≤ x ∧ x ≤ 1000 := fun x hx => by have := okFree_mem h x (red_mem hx); omega
theorem inv_mem {xs : List Int} {x : Int} (h : x ∈ inv xs) : -x ∈ xs := by
  simp only [inv, List.mem_reverse, List.mem_map] at h
  obtain ⟨y, hy, rfl⟩ := h
  simpa using hy
/-- The reduced word of two valid words behind one another, where it is not too long; and the code. -/
def fJoin (n : Int) (xs ys : List Int) : List Int := if okFree n xs = true ∧ okFree n ys = true ∧ (red (xs ++ ys)).length ≤ 20000 then red (xs ++ ys) else []
def fJoinC (n : Int) (xs ys : List Int) : Int := if okFree n xs = true ∧ okFree n ys = true then (if (red (xs ++ ys)).length ≤ 20000 then 0 else 5) else 1
theorem fJoin_len (n : Int) (xs ys : List Int) : (fJoin n xs ys).length ≤ 20000 := by
  unfold fJoin; split
  · rename_i h; exact h.2.2
  · simp
end Go.Proofs.Ytcinnbkhnonijaa
