/-
  Contract: MainLetter of the program (a seat without the reference's; elsewhere it stands in Main2).
-/
import Derived.Test.YtcinnbkhnonijaaMain2
namespace Go.Proofs.Ytcinnbkhnonijaa
set_option maxRecDepth 10000
open Go.RowKit

def mlV (s : Int) (xs : List Int) : Int := if okBr s xs = true then mainV xs else 0
def mlB (s : Int) (xs : List Int) : Bool := okBr s xs && pureL xs
set_option maxHeartbeats 1600000 in
theorem impl_MainLetter_any (s : Int) (v : Value) (xs : List Int) (B : Nat) (w : World) (h : Sl w B v xs) (hB : B ≤ w.heap.size) :
    Calls Try.prog 21 #[.agg #[.int .i64 s, v]] w fun e w' => e = .returned (.tuple #[.int .i64 (mlV s xs), .bool (mlB s xs)]) ∧ Below w.heap.size w w' := by
  obtain ⟨A, c, rfl, hl, hm, -⟩ := id h
  unfold maxLen at hm
  have hA := al1 w (.cells #[.int .i64 s, .slice A xs.length c] 26)
  have hs := h.below hA hB
  cases hok : okBr s xs
  · have H1 := Lib.hid (show mlV s xs = 0 by simp [mlV, hok])
    have H2 := Lib.hid (show mlB s xs = false by simp [mlB, hok])
    go_enter Try.func21, Try.ntmps21
    go_wp2_with (go_at_call 28; refine (impl_ValidBraid_any _ _ xs B _ hs (Nat.le_trans hB hA.size)).mono ?_; rintro e w' ⟨rfl, hb⟩; obtain ⟨hc, hf⟩ := bcell hb)
    go_ret2
    exact ⟨by rw [H1.out, H2.out]; rfl, hA.trans (hb.mono hA.size)⟩
  · have H1 := Lib.hid (show mlV s xs = mainV xs by simp [mlV, hok])
    have H2 := Lib.hid (show mlB s xs = pureL xs by simp [mlB, hok])
    have HL := Lib.hid (fun x hx => okBr_mem hok x hx)
    go_enter Try.func21, Try.ntmps21
    go_wp2_with fail
    refine (impl_ValidBraid_any _ _ xs B _ hs (Nat.le_trans hB hA.size)).mono ?_
    rintro e w1 ⟨rfl, hb⟩
    obtain ⟨hc, hf⟩ := bcell hb
    have hz := hb.size
    simp at hz
    have hz1 : w.heap.size < w1.heap.size := by omega
    go_wp2_with fail
    refine (mainLetter_any _ xs B _ (hs.below hb (Nat.le_trans hB hA.size)) HL.out).mono ?_
    rintro e w' ⟨rfl, rfl⟩
    go_wp2_with fail
    go_ret2
    exact ⟨by rw [H1.out, H2.out]; rfl, hA.trans (hb.mono hA.size)⟩
end Go.Proofs.Ytcinnbkhnonijaa
