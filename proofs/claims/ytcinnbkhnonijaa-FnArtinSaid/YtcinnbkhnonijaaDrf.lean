/-
  Contracts: the words and the arguments that the reference draws for free words (l05Bent, DrawFreeJoin).
-/
import Derived.Test.YtcinnbkhnonijaaDr
import Derived.Test.YtcinnbkhnonijaaJnv
import Derived.Test.YtcinnbkhnonijaaSt
namespace Go.Proofs.Ytcinnbkhnonijaa
set_option maxRecDepth 10000
open Go.RowKit

theorem ow_lits (w : World) (xs : List Int) (h : xs.length ≤ 1000000) : Ow (w.alloc (.cells (vals xs).toArray 2)) w.heap.size (w.alloc (.cells (vals xs).toArray 2)).heap.size (.slice (some ⟨w.heap.size, 0, none⟩) xs.length xs.length) xs :=
  ⟨⟨by simp [vals], .inr ⟨w.heap.size, xs.length, (vals xs).toArray, rfl, Nat.le_refl _, alloc_at_ _ _, Nat.le_refl _, by simp [maxLen]; omega, by simp [vals], by rw [List.take_of_length_le (by simp [vals])]⟩⟩, fun g hg => by simp [Value.ownBlock] at hg; subst hg; rw [World.size_alloc]; exact Nat.lt_succ_self _⟩
theorem among_ow {v : Value} {xs : List Int} {p K lo hi : Nat} {w : World} (h : Src w p K) (hK : K ≤ 999999000) (hO : Ow w lo hi v xs) (hx : 0 < xs.length) (hp : p < lo) (hs : hi ≤ w.heap.size) :
    Calls Try.prog 59 #[.pointer (some ⟨p, 0, none⟩), v] w fun e w' => ∃ x : Int, e = .returned (.int .i64 x) ∧ x ∈ xs ∧ Src w' p (K + 2) ∧ Chg p (p + 1) w w' :=
  among_any v xs hi p K w h hK (hO.sl (Nat.le_refl _)) hx fun _ hc => (hc.ow_off hO hp hs).sl (Nat.le_refl _)
theorem chg_fresh {p : Nat} {w wa wb : World} (ha : Below w.heap.size w wa) (hc : Chg p (p + 1) wa wb) : Chg p (p + 1) w wb :=
  ⟨hc.os.trans ha.os, hc.tape.trans ha.tape, hc.output.trans ha.output, Nat.le_trans ha.size hc.size, fun j hj hd => (hc.block j (Nat.lt_of_lt_of_le hj ha.size) hd).trans (ha.block j hj)⟩
set_option maxHeartbeats 1600000 in
theorem l03Inverse_some (v : Value) (xs : List Int) (B : Nat) (w : World) (h : Sl w B v xs) (hB : B ≤ w.heap.size) (hsz : xs.length ≤ 1000000) :
    Calls Try.prog 58 #[v] w fun e w' => ∃ r ys, e = .returned r ∧ Ow w' w.heap.size w'.heap.size r ys ∧ ys.length = xs.length ∧ Below w.heap.size w w' := by
  obtain ⟨A, c, rfl, hl, hm, _, hcells⟩ := h
  unfold maxLen at hm
  have HC := Lib.hid hcells
  clear hcells
  have hO := Ow.empty w
  have hb1 := al1 w (.cells #[] 2)
  go_enter Try.func58, Try.ntmps58
  go_wp2
  go_loopw [3, 4] (fun o i wr => ∃ (k : Nat) (ys : List Int), k ≤ xs.length ∧ i = .int .i64 (k - 1) ∧ Ow wr w.heap.size wr.heap.size o ys ∧ ys.length + k = xs.length ∧ Below w.heap.size w wr) (fun _ i _ => (intOf i + 1).toNat)
  case atStart => exact ⟨xs.length, [], Nat.le_refl _, rfl, hO, by simp, hb1⟩
  case round =>
    obtain ⟨k, ys, hk, rfl, hO, hyl, hb⟩ := hrel
    rcases Nat.eq_zero_or_pos k with rfl | hp
    · go_wp2
      go_ret
      exact ⟨_, ys, rfl, hO, hyl, hb⟩
    · obtain ⟨j, rfl⟩ : ∃ j, k = j + 1 := ⟨k - 1, by omega⟩
      rw [show (((j + 1 : Nat) : Int) - 1) = (j : Int) by omega]
      have hlt : j < xs.length := by omega
      obtain ⟨b, off, rfl, hbB, hcell⟩ := HC.out (by omega)
      have q1 : wr.cell? ⟨b, off + j, none⟩ = some (.int .i64 (gi xs j)) := by rw [hb.cell (by simp only; omega)]; exact hcell j hlt
      generalize gi xs j = X at *
      have hsz2 := hb.size
      clear hcell
      go_wp2_with (at_builtin; refine wpList_append_one rfl _ _ rfl _ _ _ _ _ _ rfl rfl hO hsz2 (by omega) ?_; intro v1 w2 hO2 hg2 _)
      have hbw := hO.grown hg2 (Nat.le_refl _) hsz2
      go_roundw
      case rel => exact ⟨j, _, by omega, by go_num, hO2, by simp; omega, hb.trans hbw⟩
      case measure => simp [intOf]
end Go.Proofs.Ytcinnbkhnonijaa
