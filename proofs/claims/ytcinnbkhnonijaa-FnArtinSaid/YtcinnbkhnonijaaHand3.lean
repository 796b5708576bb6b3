/-
  Contracts: HandleEqual and CompareBraids of the program and of the reference.
-/
import Derived.Test.YtcinnbkhnonijaaHand2
namespace Go.Proofs.Ytcinnbkhnonijaa
set_option maxRecDepth 10000
open Go.RowKit

theorem qA_c (s : Int) (xs : List Int) (t : Int) (ys : List Int) (b : Int) : (qA s xs t ys b).2 = 0 ∨ (0 < (qA s xs t ys b).2 ∧ (qA s xs t ys b).2 ≤ 12) ∧ (qA s xs t ys b).1 = [] := by
  unfold qA
  split
  · exact hForm_c _ _
  · rename_i h
    right
    refine ⟨?_, rfl⟩
    simp only
    revert h
    unfold qB
    split
    · split <;> simp
    · simp
theorem qB_lt {s : Int} {xs : List Int} {t : Int} {ys : List Int} : Lt (qB s xs t ys).1 ∧ (qB s xs t ys).1.length ≤ 80 := by
  unfold qB
  split
  · rename_i h
    split
    · refine ⟨lt_append (inv_lt (okBr_lt h.1)) (okBr_lt h.2), ?_⟩
      simp only [List.length_append, inv_len]
      have := (okBr_parts h.1).2.2.1; have := (okBr_parts h.2).2.2.1; omega
    · exact ⟨fun x hx => by simp at hx, by simp⟩
  · exact ⟨fun x hx => by simp at hx, by simp⟩
theorem qB_c (s : Int) (xs : List Int) (t : Int) (ys : List Int) : (qB s xs t ys).2 = 0 ∨ (0 < (qB s xs t ys).2 ∧ (qB s xs t ys).2 ≤ 12) := by
  unfold qB
  split
  · split <;> simp
  · simp
theorem qA_lt {s : Int} {xs : List Int} {t : Int} {ys : List Int} {b : Int} : Lt (qA s xs t ys b).1 := by
  unfold qA
  split
  · exact hForm_lt qB_lt.1
  · intro x hx; simp at hx
def eqvB (f : List Int × Int) : Bool := f.2 == 0 && (f.1.length : Int) == 0
set_option maxHeartbeats 1600000 in
theorem impl_CompareBraids_any (s t : Int) (v u : Value) (xs ys : List Int) (b : Int) (B : Nat) (w : World) (h : Sl w B v xs) (h2 : Sl w B u ys) (hB : B ≤ w.heap.size) :
    Calls Try.prog 23 #[.agg #[.int .i64 s, v], .agg #[.int .i64 t, u], .int .i64 b] w fun e w' => e = .returned (.tuple #[.int .i64 (-sgn (qA s xs t ys b).1), .int .i64 (qA s xs t ys b).2]) ∧ Below w.heap.size w w' := by
  obtain ⟨A, c, rfl, hl, hm, -⟩ := id h
  obtain ⟨A2, c', rfl, hl2, hm2, -⟩ := id h2
  have hA := al2 w (.cells #[.int .i64 s, .slice A xs.length c] 26) (.cells #[.int .i64 t, .slice A2 ys.length c'] 26)
  have hs1 := h.below hA hB
  have hs2 := h2.below hA hB
  have hB1 := Nat.le_trans hB hA.size
  obtain ⟨k0, k1, k2, k3⟩ := braids_cells w s t (.slice A xs.length c) (.slice A2 ys.length c')
  have hs1' : -1 ≤ sgn (qA s xs t ys b).1 ∧ sgn (qA s xs t ys b).1 ≤ 1 := by unfold sgn; split <;> (try split) <;> omega
  obtain ⟨x1, x2⟩ := hs1'
  have HL := Lib.hid (qA_lt (s := s) (xs := xs) (t := t) (ys := ys) (b := b))
  rcases qA_c s xs t ys b with hc | ⟨⟨hc1, hc2⟩, he⟩
  · have hcb : ((qA s xs t ys b).2 != 0) = false := by simp [hc]
    have HC := Lib.hid hc
    clear hc
    go_enter Try.func23, Try.ntmps23
    go_wp2_with fail
    refine (quotientForm_any s t _ _ xs ys b B _ hs1 hs2 hB1).mono ?_
    rintro e w1 ⟨r1, rfl, ho1, hb1⟩
    obtain ⟨A1, c1, rfl, -⟩ := id (ho1.sl (Nat.le_refl _))
    go_wp2_with fail
    refine (signOf_any _ _ _ _ (ho1.sl (Nat.le_refl _)) HL.out).mono ?_
    rintro e w2 ⟨rfl, rfl⟩
    go_wp2_with fail
    go_ret2
    exact ⟨by rw [HC.out]; rfl, hA.trans (hb1.mono hA.size)⟩
  · have hcb : ((qA s xs t ys b).2 != 0) = true := by simp; omega
    have HE := Lib.hid (show sgn (qA s xs t ys b).1 = 0 by rw [he]; rfl)
    clear he x1 x2
    go_enter Try.func23, Try.ntmps23
    go_wp2_with fail
    refine (quotientForm_any s t _ _ xs ys b B _ hs1 hs2 hB1).mono ?_
    rintro e w1 ⟨r1, rfl, ho1, hb1⟩
    go_wp2_with fail
    go_ret2
    exact ⟨by rw [HE.out]; rfl, hA.trans (hb1.mono hA.size)⟩
end Go.Proofs.Ytcinnbkhnonijaa
