/-
  Contracts: the laws' tests of marks on descriptions of loops.
-/
import Derived.Test.YtbefioljddhhpaaMc5
namespace Go.Proofs.Ytbefioljddhhpaa
set_option maxRecDepth 10000
open Go.RowKit

set_option maxHeartbeats 200000 in
theorem heldInfs_any {v : Value} {L : List (List Int)} {B : Nat} {c : Int} {w : World} (h : SlF w B v (markSS c L)) (h5 : Five L) (hsz : lenSS L ≤ 67108864) (hc0 : 0 ≤ c) (hc1 : c ≤ 1000000000) :
    Calls Try.prog 56 #[v, .int .i64 c] w fun e w' => e = .returned (.int .i64 (c + lenSS L)) ∧ Below w.heap.size w w' := by
  obtain ⟨A, cap, rfl, hl, hm, hcell⟩ := h.cells
  rw [markSS_len] at hl hcell ⊢
  have HC := Lib.hid hcell
  have H5 := Lib.hid h5
  clear hcell h5 h
  go_enter Try.func56, Try.ntmps56
  go_wp2
  go_loopw [1, 5] (fun x i wr => ∃ k : Nat, k ≤ L.length ∧ i = .int .i64 k ∧ x = .int .i64 (c + lenSS (L.take k)) ∧ wr = w) (fun _ i _ => L.length - (intOf i).toNat)
  case atStart => exact ⟨0, Nat.zero_le _, rfl, by simp [lenSS], rfl⟩
  case round =>
    obtain ⟨k, hk, rfl, rfl, rfl⟩ := hrel
    by_cases hlt : k < L.length
    · obtain ⟨b, off, rfl, hbB, hcell⟩ := HC.out (by omega)
      obtain ⟨hn, u, q5, s5⟩ := hcell k hlt
      obtain ⟨q0, q1, q2, q3, q4⟩ := five_of hn
      have hg5 := H5.out _ (gl_mem hlt)
      have HL := Lib.hid (lenSS_take hlt)
      have hrow := lenSS_row hlt
      rw [markSS_gl c L k hlt] at q0 q1 q2 q3 q4 s5
      have hD0 : 0 ≤ c + (lenSS (L.take k) : Int) ∧ c + (lenSS (L.take k) : Int) ≤ 1070000000 := by omega
      generalize hD : c + (lenSS (L.take k) : Int) = E at *
      obtain ⟨d0, d1⟩ := hD0
      rw [countFrom_5 E hg5] at q0 q1 q2 q3 q4 s5
      obtain ⟨m, hm5⟩ : ∃ m, (gl L k).length = m + 5 := ⟨(gl L k).length - 5, by omega⟩
      rw [show (gl L k).length - 5 = m by omega] at q0 q1 q2 q3 q4 s5
      have q0' : wr.cell? ⟨b, off + k * 6, none⟩ = some (.int .i64 E) := q0
      have q1' : wr.cell? ⟨b, off + k * 6 + 1, none⟩ = some (.int .i64 (E + 1)) := q1
      have q2' : wr.cell? ⟨b, off + k * 6 + 2, none⟩ = some (.int .i64 (E + 2)) := q2
      have q3' : wr.cell? ⟨b, off + k * 6 + 3, none⟩ = some (.int .i64 (E + 3)) := q3
      have q4' : wr.cell? ⟨b, off + k * 6 + 4, none⟩ = some (.int .i64 (E + 4)) := q4
      have s5' : Sl wr B u (countFrom (E + 5) m) := s5
      have HD := Lib.hid hD
      have HM := Lib.hid hm5
      have hme : m ≤ 67108864 := by omega
      have hpos : ¬ E + 5 + (m : Int) < 0 := by omega
      clear hcell hn hD q0 q1 q2 q3 q4 s5 hm5 hg5 hrow
      go_wp2_with (go_at_call 33; simp only [Int.add_assoc, Int.reduceAdd]; refine (heldInts_any _ m _ _ _ s5' (by omega) (by omega) (by omega)).mono ?_; rintro e w' ⟨rfl, rfl⟩)
      go_roundw
      case rel => exact ⟨k + 1, by omega, by go_num, by rw [HL.out, HM.out]; have := HD.out; congr 1; push_cast; omega, trivial⟩
      case measure => simp [intOf]; omega
    · obtain rfl : k = L.length := by omega
      rw [List.take_length]
      go_wp2
      go_ret
      exact ⟨rfl, Below.refl _ _⟩
end Go.Proofs.Ytbefioljddhhpaa
