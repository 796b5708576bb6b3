/-
  Contracts: the form of a quotient (the program's quotientForm, the reference's l06Between), HandleEqual and CompareBraids of both.
-/
import Derived.Test.YtcinnbkhnonijaaHand1
import Derived.Deep.RegionHeld3
namespace Go.Proofs.Ytcinnbkhnonijaa
set_option maxRecDepth 10000
open Go.RowKit

theorem inv_lt {xs : List Int} (h : Lt xs) : Lt (inv xs) := fun x hx => by have := h _ (inv_mem hx); omega
theorem lt_append {xs ys : List Int} (h : Lt xs) (h2 : Lt ys) : Lt (xs ++ ys) := fun x hx => by rcases List.mem_append.1 hx with hx | hx; exact h x hx; exact h2 x hx
/-- The word of the quotient and a code. -/
def qB (s : Int) (xs : List Int) (t : Int) (ys : List Int) : List Int × Int := if okBr s xs = true ∧ okBr t ys = true then (if s = t then (inv xs ++ ys, 0) else ([], 6)) else ([], 1)
/-- Its form and a code. -/
def qA (s : Int) (xs : List Int) (t : Int) (ys : List Int) (b : Int) : List Int × Int := if (qB s xs t ys).2 = 0 then ((hForm (qB s xs t ys).1 b).1, (hForm (qB s xs t ys).1 b).2.2) else ([], (qB s xs t ys).2)
theorem qB_yes {s t : Int} {xs ys : List Int} (h1 : okBr s xs = true) (h2 : okBr t ys = true) (h : s = t) : qB s xs t ys = (inv xs ++ ys, 0) := by unfold qB; rw [if_pos ⟨h1, h2⟩, if_pos h]
theorem qB_ne {s t : Int} {xs ys : List Int} (h1 : okBr s xs = true) (h2 : okBr t ys = true) (h : ¬ s = t) : qB s xs t ys = ([], 6) := by unfold qB; rw [if_pos ⟨h1, h2⟩, if_neg h]
theorem braids_cells (w : World) (s t : Int) (v u : Value) : let W := (w.alloc (.cells #[.int .i64 s, v] 26)).alloc (.cells #[.int .i64 t, u] 26)
    W.cell? ⟨w.heap.size, 0, none⟩ = some (.int .i64 s) ∧ W.cell? ⟨w.heap.size, 1, none⟩ = some v ∧ W.cell? ⟨w.heap.size + 1, 0, none⟩ = some (.int .i64 t) ∧ W.cell? ⟨w.heap.size + 1, 1, none⟩ = some u :=
  ⟨by simp [World.cell?_alloc_lt], by simp [World.cell?_alloc_lt], by simp, by simp⟩
set_option maxRecDepth 100000 in
set_option maxHeartbeats 3200000 in
theorem quotientForm_any (s t : Int) (v u : Value) (xs ys : List Int) (b : Int) (B : Nat) (w : World) (h : Sl w B v xs) (h2 : Sl w B u ys) (hB : B ≤ w.heap.size) :
    Calls Try.prog 48 #[.agg #[.int .i64 s, v], .agg #[.int .i64 t, u], .int .i64 b] w fun e w' => ∃ r, e = .returned (.tuple #[r, .int .i64 (qA s xs t ys b).2]) ∧ Ow w' w.heap.size w'.heap.size r (qA s xs t ys b).1 ∧ Below w.heap.size w w' := by
  obtain ⟨A, c, rfl, hl, hm, -⟩ := id h
  obtain ⟨A2, c', rfl, hl2, hm2, -⟩ := id h2
  have hA := al2 w (.cells #[.int .i64 s, .slice A xs.length c] 26) (.cells #[.int .i64 t, .slice A2 ys.length c'] 26)
  have hs1 := h.below hA hB
  have hs2 := h2.below hA hB
  have hB1 := Nat.le_trans hB hA.size
  obtain ⟨k0, k1, k2, k3⟩ := braids_cells w s t (.slice A xs.length c) (.slice A2 ys.length c')
  cases hok : okBr s xs
  · have H1 := Lib.hid (show qA s xs t ys b = ([], 1) by simp [qA, qB, hok])
    go_enter Try.func48, Try.ntmps48
    go_wp2_with fail
    refine (impl_ValidBraid_any _ _ xs B _ hs1 hB1).mono ?_
    rintro e w1 ⟨rfl, hb⟩
    go_wp2_with fail
    go_ret2
    exact ⟨_, by rw [H1.out]; rfl, by rw [H1.out]; exact Ow.nil _ _ _, hA.trans (hb.mono hA.size)⟩
  · cases hok2 : okBr t ys
    · have H1 := Lib.hid (show qA s xs t ys b = ([], 1) by simp [qA, qB, hok2])
      go_enter Try.func48, Try.ntmps48
      go_wp2_with fail
      refine (impl_ValidBraid_any _ _ xs B _ hs1 hB1).mono ?_
      rintro e w1 ⟨rfl, hb⟩
      obtain ⟨hc, hf⟩ := bcell hb
      have hz1 : w.heap.size + 1 < w1.heap.size := by have := hb.size; simp at this; omega
      go_wp2_with fail
      refine (impl_ValidBraid_any _ _ ys B _ (hs2.below hb hB1) (Nat.le_trans hB1 hb.size)).mono ?_
      rintro e w2 ⟨rfl, hb2⟩
      go_wp2_with fail
      go_ret2
      exact ⟨_, by rw [H1.out]; rfl, by rw [H1.out]; exact Ow.nil _ _ _, (hA.trans (hb.mono hA.size)).trans (hb2.mono (Nat.le_trans hA.size hb.size))⟩
    · by_cases hst : s = t
      · obtain ⟨Z, HZ⟩ : ∃ Z, Hid (inv xs ++ ys = Z) := ⟨_, Lib.hid rfl⟩
        have H1 := Lib.hid (show qA s xs t ys b = ((hForm Z b).1, (hForm Z b).2.2) by rw [← HZ.out, qA, qB_yes hok hok2 hst]; rfl)
        have HLZ := Lib.hid (show Lt Z by rw [← HZ.out]; exact lt_append (inv_lt (okBr_lt hok)) (okBr_lt hok2))
        have hlz : Z.length ≤ 80 := by rw [← HZ.out, List.length_append, inv_len]; have := (okBr_parts hok).2.2.1; have := (okBr_parts hok2).2.2.1; omega
        have hsb : (s != t) = false := by simp [hst]
        have HL1 := Lib.hid (okBr_lt hok)
        have HL2 := Lib.hid (okBr_lt hok2)
        have hln1 := (okBr_parts hok).2.2.1
        have hln2 := (okBr_parts hok2).2.2.1
        clear hst
        go_enter Try.func48, Try.ntmps48
        go_wp2_with fail
        refine (impl_ValidBraid_any _ _ xs B _ hs1 hB1).mono ?_
        rintro e w1 ⟨rfl, hb⟩
        obtain ⟨hc, hf⟩ := bcell hb
        have hz1 : w.heap.size + 1 < w1.heap.size := by have := hb.size; simp at this; omega
        go_wp2_with fail
        clear hc hf
        refine (impl_ValidBraid_any _ _ ys B _ (hs2.below hb hB1) (Nat.le_trans hB1 hb.size)).mono ?_
        rintro e w2 ⟨rfl, hb2⟩
        have hbb := hb.trans (hb2.mono hb.size)
        have hb0 := hA.trans (hbb.mono hA.size)
        obtain ⟨hc, hf⟩ := bcell hbb
        have hz2 : w.heap.size + 1 < w2.heap.size := Nat.lt_of_lt_of_le hz1 hb2.size
        have hz3 : w.heap.size < w2.heap.size := by omega
        go_wp2_with fail
        have j1 : w2.cell? ⟨w.heap.size, 1, none⟩ = some (.slice A xs.length c) := by rw [hc _ _ (by simp; omega)]; exact k1
        have j3 : w2.cell? ⟨w.heap.size + 1, 1, none⟩ = some (.slice A2 ys.length c') := by rw [hc _ _ (by simp)]; exact k3
        have hx1 := h.below hb0 hB
        have hx2 := h2.below hb0 hB
        have hB2 := Nat.le_trans hB hb0.size
        clear hc hf k0 k1 k2 k3
        have HK := Lib.hid (fun w' (hw : Below w2.heap.size w2 w') => show w'.cell? ⟨w.heap.size, 1, none⟩ = some (.slice A xs.length c) ∧ w'.cell? ⟨w.heap.size + 1, 1, none⟩ = some (.slice A2 ys.length c') ∧ Below w2.heap.size w2 w' from
          ⟨by rw [hw.cell hz3]; exact j1, by rw [hw.cell hz2]; exact j3, hw⟩)
        clear j1 j3
        go_region_held3 (fun w' => w'.cell? ⟨w.heap.size, 1, none⟩ = some (.slice A xs.length c) ∧ w'.cell? ⟨w.heap.size + 1, 1, none⟩ = some (.slice A2 ys.length c') ∧ Below w2.heap.size w2 w')
          (exact HK.out _ (by first | assumption | exact Below.refl _ _ | exact (Below.refl _ _).drew | exact Below.trans (by assumption) ((al1 _ _).mono (Below.size (w := w2) (B := w2.heap.size) (by assumption)))))
          (first
            | (go_at_call 66; (refine (inverted_any _ xs B _ (hx1.below (by first | assumption | exact Below.refl _ _ | exact drewN_below _ _ _ | exact (Below.refl _ _).drew) hB2) (Nat.le_trans hB2 (Below.size (w := w2) (B := w2.heap.size) (by first | assumption | exact Below.refl _ _ | exact drewN_below _ _ _ | exact (Below.refl _ _).drew))) (by omega) (fun x hx => by have := HL1.out x hx; omega)).mono ?_); rintro e w3 ⟨r3, rfl, ho3, hq3⟩; have hr3 : Below w2.heap.size w2 w3 := Below.trans (by first | assumption | exact Below.refl _ _ | exact drewN_below _ _ _ | exact (Below.refl _ _).drew) (hq3.mono (Below.size (w := w2) (B := w2.heap.size) (by first | assumption | exact Below.refl _ _ | exact drewN_below _ _ _ | exact (Below.refl _ _).drew))); obtain ⟨A3, c3, rfl, -⟩ := id (ho3.sl (Nat.le_refl _)))
            | (go_at_call 65; (with_reducible refine (concat2_any _ _ _ (inv xs) ys w3.heap.size _ ((ho3.sl (Nat.le_refl _)).below (al1 w3 _) (Nat.le_refl _)) (((hx2.below hr3 hB2).below (al1 w3 _) (Nat.le_trans hB2 hr3.size)).mono (Nat.le_trans hB2 hr3.size)) (al1 w3 _).size (by simp) (by simp) (by rw [inv_len]; omega) (by omega)).mono ?_); rintro e w4 ⟨r4, rfl, ho4, hq4⟩; have hr4 : Below w2.heap.size w2 w4 := Below.trans hr3 (((al1 w3 _).trans (hq4.mono (al1 w3 _).size)).mono hr3.size); rw [HZ.out] at ho4; obtain ⟨A4, c4, rfl, -⟩ := id (ho4.sl (Nat.le_refl _)))
            | (go_at_call 37; (with_reducible refine (handleForm_any _ _ _ b _ (ho4.sl (Nat.le_refl _)) (Nat.le_refl _) HLZ.out (by omega)).mono ?_); rintro e w5 ⟨r5, rfl, ho5, hq5⟩; have hr5 : Below w2.heap.size w2 w5 := Below.trans hr4 (hq5.mono hr4.size)))
        go_wp2
        go_ret2
        exact ⟨_, by rw [H1.out]; rfl, by rw [H1.out]; exact ho5.mono (Nat.le_trans hb0.size hr4.size) (Nat.le_refl _), hb0.trans (hr5.mono hb0.size)⟩
      · have H1 := Lib.hid (show qA s xs t ys b = ([], 6) by rw [qA, qB_ne hok hok2 hst]; rfl)
        have hsb : (s != t) = true := by simp [hst]
        clear hst
        go_enter Try.func48, Try.ntmps48
        go_wp2_with fail
        refine (impl_ValidBraid_any _ _ xs B _ hs1 hB1).mono ?_
        rintro e w1 ⟨rfl, hb⟩
        obtain ⟨hc, hf⟩ := bcell hb
        have hz1 : w.heap.size + 1 < w1.heap.size := by have := hb.size; simp at this; omega
        go_wp2_with fail
        clear hc hf
        refine (impl_ValidBraid_any _ _ ys B _ (hs2.below hb hB1) (Nat.le_trans hB1 hb.size)).mono ?_
        rintro e w2 ⟨rfl, hb2⟩
        have hbb := hb.trans (hb2.mono hb.size)
        obtain ⟨hc, hf⟩ := bcell hbb
        go_wp2_with fail
        go_ret2
        exact ⟨_, by rw [H1.out]; rfl, by rw [H1.out]; exact Ow.nil _ _ _, hA.trans (hbb.mono hA.size)⟩
end Go.Proofs.Ytcinnbkhnonijaa
