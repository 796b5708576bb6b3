/-
  Contracts: reducing a word (impl.reduced, spec.l03Reduce).
-/
import Derived.Test.YtcoocjdkppdlmaaFree
namespace Go.Proofs.Ytcoocjdkppdlmaa
set_option maxRecDepth 10000
open Go.RowKit

set_option maxHeartbeats 800000 in
theorem reduced_any (v : Value) (xs : List Int) (B : Nat) (w : World) (h : Sl w B v xs) (hB : B ≤ w.heap.size) (hsz : xs.length ≤ 1000000) (hbd : ∀ x ∈ xs, -1000 ≤ x ∧ x ≤ 1000) :
    Calls Try.prog 63 #[v] w fun e w' => ∃ r, e = .returned r ∧ Ow w' w.heap.size w'.heap.size r (red xs) ∧ Below w.heap.size w w' := by
  obtain ⟨A, c, rfl, hl, hm, _, hcells⟩ := h
  unfold maxLen at hm
  have HC := Lib.hid hcells
  have HBD := Lib.hid hbd
  clear hcells hbd
  obtain ⟨i0, hi, hz0, hz1, hz2⟩ := info_parts i64_info
  have HI := Lib.hid hi
  have HZ := Lib.hid hz0
  clear hi hz0
  go_enter Try.func63, Try.ntmps63
  go_wp2_with (at_make; refine wpList_make_own _ rfl _ _ 23 rfl w.heap.size 2 i0 (.int .i64 0) 1 Try.underlying23 HI.out HZ.out hz1 _ _ _ xs.length rfl rfl rfl (by rw [hz2]; omega) (by unfold maxLen; omega) (Nat.le_refl _) ?_)
  intro w1 hown hg1
  have hO : Ow w1 w.heap.size w1.heap.size (.slice (some ⟨w.heap.size, 0, none⟩) 0 xs.length) [] := Ow.of_own hown rfl rfl
  have hb1 : Below w.heap.size w w1 := (Below.refl _ _).grown hg1 (Nat.le_refl _) (by simp)
  clear hown hg1
  go_wp2
  go_loopw [3, 11] (fun o i wr => ∃ k : Nat, k ≤ xs.length ∧ i = .int .i64 k ∧ Ow wr w.heap.size wr.heap.size o (red (xs.take k)) ∧ Below w.heap.size w wr) (fun _ i _ => xs.length - (intOf i).toNat)
  case atStart => exact ⟨0, Nat.zero_le _, rfl, hO, hb1⟩
  case round =>
    obtain ⟨k, hk, rfl, hO, hb⟩ := hrel
    by_cases hlt : k < xs.length
    · obtain ⟨b, off, rfl, hbB, hcell⟩ := HC.out (by omega)
      have q1 : wr.cell? ⟨b, off + k, none⟩ = some (.int .i64 (gi xs k)) := by rw [hb.cell (by simp only; omega)]; exact hcell k hlt
      obtain ⟨y1, y2⟩ := HBD.out _ (gi_mem hlt)
      have hrl := red_len (xs.take k)
      rw [List.length_take] at hrl
      have hst := red_take hlt
      have hsz2 := hb.size
      clear hcell
      generalize hR : red (xs.take k) = R at *
      generalize hR' : red (xs.take (k + 1)) = R' at *
      have HR' := Lib.hid hR'
      clear hR hR'
      rcases hO.form with ⟨rfl, rfl⟩ | ⟨g, cap, rfl, hlo, hhi, hcap, hcap2, hcl⟩
      · have HST : Hid (R' = [gi xs k]) := Lib.hid (by rw [hst, push_on (.inl rfl)]; rfl)
        clear hst
        go_wp2_with (at_builtin; refine wpList_append_one rfl (.tmp 34) (.tmp 36) rfl _ _ _ _ _ (gi xs k) rfl rfl hO hsz2 (by simp) ?_; intro v1 w2 hO2 hg2 _)
        have hbw := hO.grown hg2 (Nat.le_refl _) hsz2
        go_roundw
        case rel => exact ⟨k + 1, by omega, by go_num, by rw [HR'.out, HST.out]; exact hO2, hb.trans hbw⟩
        case measure => simp [intOf]; omega
      · rcases Nat.eq_zero_or_pos R.length with h0 | hpos
        · obtain rfl := List.eq_nil_of_length_eq_zero h0
          have HST : Hid (R' = [gi xs k]) := Lib.hid (by rw [hst, push_on (.inl rfl)]; rfl)
          clear hst hcl h0
          go_wp2_with (at_builtin; refine wpList_append_one rfl (.tmp 34) (.tmp 36) rfl _ _ _ _ _ (gi xs k) rfl rfl hO hsz2 (by simp) ?_; intro v1 w2 hO2 hg2 _)
          have hbw := hO.grown hg2 (Nat.le_refl _) hsz2
          go_roundw
          case rel => exact ⟨k + 1, by omega, by go_num, by rw [HR'.out, HST.out]; exact hO2, hb.trans hbw⟩
          case measure => simp [intOf]; omega
        · have q2 := hcl (R.length - 1) (by omega)
          clear hcl
          by_cases he : gi R (R.length - 1) = -gi xs k
          · have heb : (gi R (R.length - 1) == -gi xs k) = true := by simp [he]
            have HST : Hid (R' = R.dropLast) := Lib.hid (by rw [hst]; exact push_back hpos he)
            have hO2 := hO.pop hpos
            clear hst he
            go_wp2
            go_roundw
            case rel => exact ⟨k + 1, by omega, by go_num, by rw [HR'.out, HST.out]; exact hO2, hb⟩
            case measure => simp [intOf]; omega
          · have heb : (gi R (R.length - 1) == -gi xs k) = false := by simp [he]
            have HST : Hid (R' = R ++ [gi xs k]) := Lib.hid (by rw [hst]; exact push_on (.inr he))
            clear hst he
            go_wp2_with (at_builtin; refine wpList_append_one rfl (.tmp 34) (.tmp 36) rfl _ _ _ _ _ (gi xs k) rfl rfl hO hsz2 (by omega) ?_; intro v1 w2 hO2 hg2 _)
            have hbw := hO.grown hg2 (Nat.le_refl _) hsz2
            go_roundw
            case rel => exact ⟨k + 1, by omega, by go_num, by rw [HR'.out, HST.out]; exact hO2, hb.trans hbw⟩
            case measure => simp [intOf]; omega
    · obtain rfl : k = xs.length := by omega
      rw [List.take_of_length_le (Nat.le_refl _)] at hO
      go_wp2
      go_ret
      exact ⟨_, rfl, hO, hb⟩
end Go.Proofs.Ytcoocjdkppdlmaa
