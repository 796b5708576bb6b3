/-
  Contracts: FreeReduce and FreeText, of the program and of the reference.
-/
import Derived.Test.YtcoocjdkppdlmaaRed
import Derived.Test.YtcoocjdkppdlmaaRed2
import Derived.Test.YtcoocjdkppdlmaaOwr
namespace Go.Proofs.Ytcoocjdkppdlmaa
set_option maxRecDepth 10000
open Go.RowKit

set_option maxHeartbeats 400000 in
theorem impl_FreeReduce_any (v : Value) (xs : List Int) (B : Nat) (n : Int) (w : World) (h : Sl w B v xs) (hB : B ≤ w.heap.size) :
    Calls Try.prog 35 #[.int .i64 n, v] w fun e w' => ∃ r, e = .returned (.tuple #[r, .bool (okFree n xs)]) ∧ Ow w' w.heap.size w'.heap.size r (fRed n xs) ∧ Below w.heap.size w w' := by
  cases hok : okFree n xs
  · have HF := Lib.hid (show fRed n xs = [] by simp [fRed, hok])
    go_enter Try.func35, Try.ntmps35
    go_wp2_with (go_at_call 51; refine (impl_ValidFree_any _ xs B _ _ h hB).mono ?_; rintro e w1 ⟨rfl, hb⟩)
    go_ret2
    exact ⟨_, rfl, by rw [HF.out]; exact Ow.nil _ _ _, hb⟩
  · have HF := Lib.hid (show fRed n xs = red xs by simp [fRed, hok])
    have HM := Lib.hid (okFree_mem hok)
    have hlen := (okFree_parts hok).2.2.1
    go_enter Try.func35, Try.ntmps35
    go_wp2_with (first | (go_at_call 51; refine (impl_ValidFree_any _ xs B _ _ h hB).mono ?_; rintro e w1 ⟨rfl, hb⟩) | (go_at_call 63; refine (reduced_any _ xs B _ (h.below hb hB) (Nat.le_trans hB hb.size) (by omega) (fun x hx => by have := HM.out x hx; omega)).mono ?_; rintro e w2 ⟨r, rfl, ho, hb2⟩))
    go_ret2
    exact ⟨_, rfl, by rw [HF.out]; exact ho.mono hb.size (Nat.le_refl _), hb.trans (hb2.mono hb.size)⟩
theorem u8_info : (Try.prog.info? 5).map (fun i => (i.zero, i.size, i.bytes)) = some (some (.int .u8 0), 1, 1) := by kernel_rfl
theorem letters_snoc {xs : List Int} {k : Nat} (h : k < xs.length) : (xs.take (k + 1)).map letterByte = (xs.take k).map letterByte ++ [letterByte (gi xs k)] := by
  rw [take_gi h, List.map_append]; rfl
/-- The text of a word. -/
def freeStr (xs : List Int) : ByteArray := if xs.length = 0 then ⟨#[49]⟩ else strOf (xs.map letterByte)
def fText (n : Int) (xs : List Int) : ByteArray := if okFree n xs = true then freeStr xs else ByteArray.empty

set_option maxHeartbeats 800000 in
theorem impl_FreeText_any (v : Value) (xs : List Int) (B : Nat) (n : Int) (w : World) (h : Sl w B v xs) (hB : B ≤ w.heap.size) :
    Calls Try.prog 38 #[.int .i64 n, v] w fun e w' => e = .returned (.string (fText n xs)) ∧ Below w.heap.size w w' := by
  cases hok : okFree n xs
  · have HF := Lib.hid (show fText n xs = ByteArray.empty by simp [fText, hok])
    go_enter Try.func38, Try.ntmps38
    go_wp2_with (go_at_call 51; refine (impl_ValidFree_any _ xs B _ _ h hB).mono ?_; rintro e w1 ⟨rfl, hb⟩)
    go_ret
    exact ⟨by rw [HF.out]; rfl, hb⟩
  · have HM := Lib.hid (okFree_mem hok)
    have hlen := (okFree_parts hok).2.2.1
    obtain ⟨A, c, rfl, hl, hm, _, hcells⟩ := id h
    unfold maxLen at hm
    have HC := Lib.hid hcells
    clear hcells
    by_cases h0 : xs.length = 0
    · have HF := Lib.hid (show fText n xs = ⟨#[49]⟩ by simp [fText, hok, freeStr, h0])
      have h0b : ((xs.length : Int) == 0) = true := by simp [h0]
      clear h0
      go_enter Try.func38, Try.ntmps38
      go_wp2_with (go_at_call 51; refine (impl_ValidFree_any _ xs B _ _ h hB).mono ?_; rintro e w1 ⟨rfl, hb⟩)
      go_ret
      exact ⟨by rw [HF.out]; rfl, hb⟩
    · have HF := Lib.hid (show fText n xs = strOf (xs.map letterByte) by simp [fText, hok, freeStr, h0])
      have h0b : ((xs.length : Int) == 0) = false := by simp; exact fun e => h0 (by simp [e])
      clear h0
      obtain ⟨i0, hi, hz0, hz1, hz2⟩ := info_parts u8_info
      have HI := Lib.hid hi
      have HZ := Lib.hid hz0
      clear hi hz0
      go_enter Try.func38, Try.ntmps38
      go_wp2_with (first | (go_at_call 51; refine (impl_ValidFree_any _ xs B _ _ h hB).mono ?_; rintro e w1 ⟨rfl, hb⟩) | (at_make; refine wpList_make_own _ rfl _ _ 49 rfl w.heap.size 5 i0 (.int .u8 0) 1 Try.underlying49 HI.out HZ.out hz1 _ _ _ xs.length rfl rfl rfl (by rw [hz2]; omega) (by unfold maxLen; omega) hb.size ?_))
      intro w2 hown hg1
      have hO : OwR 5 1 w2 w.heap.size w2.heap.size (.slice (some ⟨w1.heap.size, 0, none⟩) 0 xs.length) 0 (bvals ((xs.take 0).map letterByte)) := OwR.of_own hown
      have hb1 : Below w.heap.size w w2 := hb.grown hg1 hb.size (by simp)
      clear hown hg1
      go_wp2
      go_loopw [5, 20] (fun o i wr => ∃ k : Nat, k ≤ xs.length ∧ i = .int .i64 k ∧ OwR 5 1 wr w.heap.size wr.heap.size o k (bvals ((xs.take k).map letterByte)) ∧ Below w.heap.size w wr) (fun _ i _ => xs.length - (intOf i).toNat)
      case atStart => exact ⟨0, Nat.zero_le _, rfl, hO, hb1⟩
      case round =>
        obtain ⟨k, hk, rfl, hO, hb⟩ := hrel
        by_cases hlt : k < xs.length
        · obtain ⟨b, off, rfl, hbB, hcell⟩ := HC.out (by omega)
          have q1 : wr.cell? ⟨b, off + k, none⟩ = some (.int .i64 (gi xs k)) := by rw [hb.cell (by simp only; omega)]; exact hcell k hlt
          obtain ⟨y0, y1, y2⟩ := HM.out _ (gi_mem hlt)
          have HS := Lib.hid (letters_snoc hlt)
          have hsz2 := hb.size
          clear hcell
          by_cases hp : 0 < gi xs k
          · have HB := Lib.hid (letterByte_pos hp)
            go_wp2_with (at_builtin; refine wpList_append_elem Try.underlying49 u8_info rfl (by omega) (by omega) rfl (.tmp 26) (.tmp 31) rfl _ _ _ _ _ _ [.int .u8 (97 + (gi xs k - 1))] rfl rfl hO hsz2 (by omega) rfl (by simp [Value.oneCell']) ?_; intro v1 w2 hO2 hg2 _)
            have hbw := hO.grown hg2 (Nat.le_refl _) hsz2
            go_roundw
            case rel => exact ⟨k + 1, by omega, by go_num, by rw [HS.out, bvals_snoc, HB.out, show 96 + gi xs k = 97 + (gi xs k - 1) from by omega]; exact hO2, hb.trans hbw⟩
            case measure => simp [intOf]; omega
          · have HB := Lib.hid (letterByte_neg hp)
            go_wp2_with (at_builtin; refine wpList_append_elem Try.underlying49 u8_info rfl (by omega) (by omega) rfl (.tmp 33) (.tmp 39) rfl _ _ _ _ _ _ [.int .u8 (65 + (-gi xs k - 1))] rfl rfl hO hsz2 (by omega) rfl (by simp [Value.oneCell']) ?_; intro v1 w2 hO2 hg2 _)
            have hbw := hO.grown hg2 (Nat.le_refl _) hsz2
            go_roundw
            case rel => exact ⟨k + 1, by omega, by go_num, by rw [HS.out, bvals_snoc, HB.out, show 64 - gi xs k = 65 + (-gi xs k - 1) from by omega]; exact hO2, hb.trans hbw⟩
            case measure => simp [intOf]; omega
        · obtain rfl : k = xs.length := by omega
          rw [List.take_of_length_le (Nat.le_refl _)] at hO
          have hs := run_bytes_str (t8 := 49) (ts := 9) Try.underlying49 Try.underlying5 Try.underlying9 hO
          go_wp2
          go_ret
          exact ⟨by rw [HF.out]; rfl, hb⟩
end Go.Proofs.Ytcoocjdkppdlmaa
