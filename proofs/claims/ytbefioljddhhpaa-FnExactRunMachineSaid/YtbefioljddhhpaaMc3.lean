/-
  Contracts: the laws' helpers on descriptions of loops and on carriers.
-/
import Derived.Test.YtbefioljddhhpaaMc2
namespace Go.Proofs.Ytbefioljddhhpaa
set_option maxRecDepth 10000
open Go.RowKit

theorem setB {B : Nat} {w w1 : World} {p : Addr} {x : Value} (hp : B ≤ p.block) (h : Below B w w1) : Below B w (w1.setCell p x) :=
  ⟨h.os, h.tape, h.output, by simpa [World.setCell] using h.size, fun b hb => by rw [Below.heap_setCell _ _ _ _ (by omega)]; exact h.block b hb⟩
/-- Six stores into a box of six cells. -/
theorem box6_set {w : World} {g : Nat} {b0 b1 b2 b3 b4 b5 : Value} {t : TypeId} (a0 a1 a2 a3 a4 a5 : Value) (hx : w.heap[g]? = some (.cells #[b0, b1, b2, b3, b4, b5] t)) :
    let W := (((((w.setCell ⟨g, 0, none⟩ a0).setCell ⟨g, 1, none⟩ a1).setCell ⟨g, 2, none⟩ a2).setCell ⟨g, 3, none⟩ a3).setCell ⟨g, 4, none⟩ a4).setCell ⟨g, 5, none⟩ a5
    W.heap[g]? = some (.cells #[a0, a1, a2, a3, a4, a5] t) ∧ (∀ j, j ≠ g → W.heap[j]? = w.heap[j]?) ∧ W.heap.size = w.heap.size ∧ ∀ B, B ≤ g → Below B w W := by
  intro W
  refine ⟨?_, fun j hj => ?_, by simp [W, World.setCell], fun B hB => setB hB (setB hB (setB hB (setB hB (setB hB (setB hB (Below.refl _ _))))))⟩
  · have h := heap_setCell_at (k := 5) a5 (heap_setCell_at (k := 4) a4 (heap_setCell_at (k := 3) a3 (heap_setCell_at (k := 2) a2 (heap_setCell_at (k := 1) a1 (heap_setCell_at (k := 0) a0 hx)))))
    exact h
  · simp only [W]
    rw [Below.heap_setCell _ _ _ _ hj, Below.heap_setCell _ _ _ _ hj, Below.heap_setCell _ _ _ _ hj, Below.heap_setCell _ _ _ _ hj, Below.heap_setCell _ _ _ _ hj, Below.heap_setCell _ _ _ _ hj]
theorem box6 {w : World} {g : Nat} {a b c d e f : Value} {t : TypeId} (h : w.heap[g]? = some (.cells #[a, b, c, d, e, f] t)) :
    (w.cell? ⟨g, 0, none⟩ = some a ∧ w.cell? ⟨g, 1, none⟩ = some b ∧ w.cell? ⟨g, 2, none⟩ = some c ∧ w.cell? ⟨g, 3, none⟩ = some d ∧ w.cell? ⟨g, 4, none⟩ = some e ∧ w.cell? ⟨g, 5, none⟩ = some f) ∧ (∀ k, w.frozen? ⟨g, k, none⟩ = false) ∧ g < w.heap.size :=
  ⟨⟨cell_of_row w g 0 _ t (0, 0) h, cell_of_row w g 1 _ t (0, 0) h, cell_of_row w g 2 _ t (0, 0) h, cell_of_row w g 3 _ t (0, 0) h, cell_of_row w g 4 _ t (0, 0) h, cell_of_row w g 5 _ t (0, 0) h⟩, fun k => by simp only [World.frozen?, h]; simp, heap_lt h⟩
def prs (L : List (List Int)) : List (List Int) := L.map fun o => o.drop 5
theorem prs_len (L : List (List Int)) : (prs L).length = L.length := by simp [prs]
theorem prs_gl {L : List (List Int)} {k : Nat} (h : k < L.length) : gl (prs L) k = (gl L k).drop 5 := by rw [gl_eq (by rw [prs_len]; exact h), gl_eq h]; simp [prs]
theorem five_of {w : World} {b o : Nat} {f : Nat → Int} (h : ∀ j, j < 5 → w.cell? ⟨b, o + j, none⟩ = some (.int .i64 (f j))) : w.cell? ⟨b, o, none⟩ = some (.int .i64 (f 0)) ∧ w.cell? ⟨b, o + 1, none⟩ = some (.int .i64 (f 1)) ∧ w.cell? ⟨b, o + 2, none⟩ = some (.int .i64 (f 2)) ∧ w.cell? ⟨b, o + 3, none⟩ = some (.int .i64 (f 3)) ∧ w.cell? ⟨b, o + 4, none⟩ = some (.int .i64 (f 4)) :=
  ⟨h 0 (by omega), h 1 (by omega), h 2 (by omega), h 3 (by omega), h 4 (by omega)⟩
theorem szCars_no {v : Value} {C : List (Bool × Int)} {B : Nat} {left : Int} {w : World} (h : SlK w B v C) (h1 : left ≤ 1048576) (h0 : 0 ≤ left) (hc : left < (C.length : Int)) :
    Calls Try.prog 58 #[v, .int .i64 left] w fun e w' => e = .returned (.int .i64 (-1)) ∧ Below w.heap.size w w' := by
  obtain ⟨A, c, rfl, hl, hm, -⟩ := h.cells
  have hlt : left - (C.length : Int) < 0 := by omega
  go_enter Try.func58, Try.ntmps58
  go_wp2
  go_ret
  exact ⟨rfl, Below.refl _ _⟩
theorem szCars_yes {v : Value} {C : List (Bool × Int)} {B : Nat} {left : Int} {w : World} (h : SlK w B v C) (h1 : left ≤ 1048576) (h0 : 0 ≤ left) (hc : ¬ left < (C.length : Int)) :
    Calls Try.prog 58 #[v, .int .i64 left] w fun e w' => e = .returned (.int .i64 (left - C.length)) ∧ Below w.heap.size w w' := by
  obtain ⟨A, c, rfl, hl, hm, -⟩ := h.cells
  have hlt : ¬ left - (C.length : Int) < 0 := by omega
  go_enter Try.func58, Try.ntmps58
  go_wp2
  go_ret
  exact ⟨rfl, Below.refl _ _⟩
set_option maxHeartbeats 400000 in
theorem szInf_no {a0 a1 a2 a3 a4 : Int} {v : Value} {xs : List Int} {B : Nat} {left : Int} {w : World} (h : Sl w B v xs) (hB : B ≤ w.heap.size) (h1 : left ≤ 1048576) (h0 : 0 ≤ left) (hc : left < xs.length) :
    Calls Try.prog 97 #[.agg #[.int .i64 a0, .int .i64 a1, .int .i64 a2, .int .i64 a3, .int .i64 a4, v], .int .i64 left] w fun e w' => e = .returned (.int .i64 (-1)) ∧ Below w.heap.size w w' := by
  obtain ⟨A, c, rfl, hl, hm, -⟩ := id h
  unfold maxLen at hm
  have hs := h.below (al1 w (.cells #[.int .i64 a0, .int .i64 a1, .int .i64 a2, .int .i64 a3, .int .i64 a4, .slice A xs.length c] 112)) hB
  go_enter Try.func97, Try.ntmps97
  go_wp2_with (go_at_call 60; refine (szInts_any hs h1 h0).mono ?_; rintro e w' ⟨rfl, rfl⟩; rw [if_pos hc])
  go_ret
  exact ⟨rfl, al1 _ _⟩
set_option maxHeartbeats 400000 in
theorem szInf_yes {a0 a1 a2 a3 a4 : Int} {v : Value} {xs : List Int} {B : Nat} {left : Int} {w : World} (h : Sl w B v xs) (hB : B ≤ w.heap.size) (h1 : left ≤ 1048576) (h0 : 0 ≤ left) (hc : ¬ left < xs.length) :
    Calls Try.prog 97 #[.agg #[.int .i64 a0, .int .i64 a1, .int .i64 a2, .int .i64 a3, .int .i64 a4, v], .int .i64 left] w fun e w' => e = .returned (.int .i64 (left - xs.length)) ∧ Below w.heap.size w w' := by
  obtain ⟨A, c, rfl, hl, hm, -⟩ := id h
  unfold maxLen at hm
  have hs := h.below (al1 w (.cells #[.int .i64 a0, .int .i64 a1, .int .i64 a2, .int .i64 a3, .int .i64 a4, .slice A xs.length c] 112)) hB
  have hc1 : ¬ left - xs.length < 0 := by omega
  go_enter Try.func97, Try.ntmps97
  go_wp2_with (go_at_call 60; refine (szInts_any hs h1 h0).mono ?_; rintro e w' ⟨rfl, rfl⟩; rw [if_neg hc])
  go_ret
  exact ⟨rfl, al1 _ _⟩
set_option maxHeartbeats 1600000 in
theorem szInfs_any {v : Value} {L : List (List Int)} {B : Nat} {left F : Int} {w : World} (h : SlF w B v L) (hB : B ≤ w.heap.size) (h1 : left ≤ 1048576) (h0 : 0 ≤ left)
    (HFa : Hid (left < ((L.length + lenSS (prs L) : Nat) : Int) → F = -1)) (HFb : Hid (¬ left < ((L.length + lenSS (prs L) : Nat) : Int) → F = left - ((L.length + lenSS (prs L) : Nat) : Int))) :
    Calls Try.prog 59 #[v, .int .i64 left] w fun e w' => e = .returned (.int .i64 F) ∧ Below w.heap.size w w' := by
  obtain ⟨A, c, rfl, hl, hm, hcell⟩ := h.cells
  have HC := Lib.hid hcell
  clear hcell h
  have hpl := prs_len L
  by_cases hn : left < L.length
  · have HF := Lib.hid (HFa.out (by omega))
    have hn1 : left - L.length < 0 := by omega
    rw [HF.out]
    clear hpl
    go_enter Try.func59, Try.ntmps59
    go_wp2
    go_ret
    exact ⟨rfl, Below.refl _ _⟩
  · have hn1 : ¬ left - L.length < 0 := by omega
    have HPL := Lib.hid hpl
    clear hpl
    go_enter Try.func59, Try.ntmps59
    go_wp2
    go_loopw [1, 5] (fun x i wr => ∃ k : Nat, k ≤ L.length ∧ i = .int .i64 k ∧ x = .int .i64 (left - L.length - lenSS ((prs L).take k)) ∧ 0 ≤ left - L.length - lenSS ((prs L).take k) ∧ Below w.heap.size w wr) (fun _ i _ => L.length - (intOf i).toNat)
    case atStart => exact ⟨0, Nat.zero_le _, rfl, by simp [lenSS], by simp [lenSS]; omega, Below.refl _ _⟩
    case round =>
      obtain ⟨k, hk, rfl, rfl, hge, hb⟩ := hrel
      by_cases hlt : k < L.length
      · obtain ⟨b, off, rfl, hbB, hcell⟩ := HC.out (by omega)
        obtain ⟨hc5, u, q5, s1⟩ := hcell k hlt
        obtain ⟨q0, q1, q2, q3, q4⟩ := five_of (fun j hj => (show wr.cell? ⟨b, off + k * 6 + j, none⟩ = some (.int .i64 (gi (gl L k) j)) by rw [hb.cell (by simp only; omega)]; exact hc5 j hj))
        have q5 : wr.cell? ⟨b, off + k * 6 + 5, none⟩ = some u := by rw [hb.cell (by simp only; omega)]; exact q5
        have s1 := s1.below hb hB
        have hz := hb.size
        have HL := Lib.hid (lenSS_take (xss := prs L) (k := k) (by rw [HPL.out]; exact hlt))
        have hrow := lenSS_row (xss := prs L) (k := k) (by rw [HPL.out]; exact hlt)
        rw [prs_gl hlt] at HL hrow
        generalize (gl L k).drop 5 = ps at *
        clear hcell hc5
        generalize hT : lenSS ((prs L).take k) = T at *
        have HT := Lib.hid hT
        clear hT
        by_cases hc : left - L.length - T < ps.length
        · have HFx := Lib.hid (HFa.out (by omega))
          go_wp2_with fail
          refine (szInf_no s1 (by omega) (by omega) (by omega) (by omega)).mono ?_
          rintro e w2 ⟨rfl, hb2⟩
          have HB := Lib.hid (hb.trans (hb2.mono hz))
          clear hb hb2
          go_wp2_with fail
          go_ret
          exact ⟨by rw [HFx.out]; rfl, HB.out⟩
        · have hc2 : ¬ left - L.length - T - ps.length < 0 := by omega
          go_wp2_with fail
          refine (szInf_yes s1 (by omega) (by omega) (by omega) (by omega)).mono ?_
          rintro e w2 ⟨rfl, hb2⟩
          have HB := Lib.hid (hb.trans (hb2.mono hz))
          clear hb hb2
          go_wp2_with fail
          go_roundw
          case rel => exact ⟨k + 1, by omega, by go_num, by rw [HL.out]; congr 1; omega, by rw [HL.out]; omega, HB.out⟩
          case measure => simp [intOf]; omega
      · obtain rfl : k = L.length := by omega
        have ht : (prs L).take L.length = prs L := by rw [List.take_of_length_le (by rw [HPL.out]; omega)]
        rw [ht] at hge ⊢
        clear ht
        have HFx := Lib.hid (HFb.out (by omega))
        go_wp2
        go_ret
        exact ⟨ret_int (by rw [HFx.out]; omega), hb⟩
set_option maxHeartbeats 1600000 in
theorem toInf_any (a0 a1 a2 a3 a4 : Int) (v : Value) (ps : List Int) (B : Nat) (w : World) (h : Sl w B v ps) (hB : B ≤ w.heap.size) (hsz : ps.length ≤ 1048576) :
    Calls Try.prog 99 #[.agg #[.int .i64 a0, .int .i64 a1, .int .i64 a2, .int .i64 a3, .int .i64 a4, v]] w fun e w' => ∃ r, e = .returned (.agg #[.int .i64 a0, .int .i64 a1, .int .i64 a2, .int .i64 a3, .int .i64 a4, r]) ∧ Ow w' w.heap.size w'.heap.size r ps ∧ Below w.heap.size w w' := by
  obtain ⟨A, c, rfl, -⟩ := id h
  have hA1 := al1 w (.cells #[.int .i64 a0, .int .i64 a1, .int .i64 a2, .int .i64 a3, .int .i64 a4, .slice A ps.length c] 112)
  have hs1 : (w.alloc (.cells #[.int .i64 a0, .int .i64 a1, .int .i64 a2, .int .i64 a3, .int .i64 a4, .slice A ps.length c] 112)).heap.size = w.heap.size + 1 := by simp
  have hA2 := al1 (w.alloc (.cells #[.int .i64 a0, .int .i64 a1, .int .i64 a2, .int .i64 a3, .int .i64 a4, .slice A ps.length c] 112)) (.cells #[.int .i64 0, .int .i64 0, .int .i64 0, .int .i64 0, .int .i64 0, .slice none 0 0] 80)
  have hx2 := alloc_at_ (w.alloc (.cells #[.int .i64 a0, .int .i64 a1, .int .i64 a2, .int .i64 a3, .int .i64 a4, .slice A ps.length c] 112)) (.cells #[.int .i64 0, .int .i64 0, .int .i64 0, .int .i64 0, .int .i64 0, .slice none 0 0] 80)
  have hs2 : ((w.alloc (.cells #[.int .i64 a0, .int .i64 a1, .int .i64 a2, .int .i64 a3, .int .i64 a4, .slice A ps.length c] 112)).alloc (.cells #[.int .i64 0, .int .i64 0, .int .i64 0, .int .i64 0, .int .i64 0, .slice none 0 0] 80)).heap.size = w.heap.size + 2 := by simp
  have hA3 := al1 ((w.alloc (.cells #[.int .i64 a0, .int .i64 a1, .int .i64 a2, .int .i64 a3, .int .i64 a4, .slice A ps.length c] 112)).alloc (.cells #[.int .i64 0, .int .i64 0, .int .i64 0, .int .i64 0, .int .i64 0, .slice none 0 0] 80)) (.cells #[.int .i64 a0, .int .i64 a1, .int .i64 a2, .int .i64 a3, .int .i64 a4, .slice none 0 0] 80)
  have hx3 := alloc_at_ ((w.alloc (.cells #[.int .i64 a0, .int .i64 a1, .int .i64 a2, .int .i64 a3, .int .i64 a4, .slice A ps.length c] 112)).alloc (.cells #[.int .i64 0, .int .i64 0, .int .i64 0, .int .i64 0, .int .i64 0, .slice none 0 0] 80)) (.cells #[.int .i64 a0, .int .i64 a1, .int .i64 a2, .int .i64 a3, .int .i64 a4, .slice none 0 0] 80)
  have hx2 := (hA3.block _ (by omega)).trans hx2
  have hs3 : (((w.alloc (.cells #[.int .i64 a0, .int .i64 a1, .int .i64 a2, .int .i64 a3, .int .i64 a4, .slice A ps.length c] 112)).alloc (.cells #[.int .i64 0, .int .i64 0, .int .i64 0, .int .i64 0, .int .i64 0, .slice none 0 0] 80)).alloc (.cells #[.int .i64 a0, .int .i64 a1, .int .i64 a2, .int .i64 a3, .int .i64 a4, .slice none 0 0] 80)).heap.size = w.heap.size + 3 := by simp
  have hA : Below w.heap.size w (((w.alloc (.cells #[.int .i64 a0, .int .i64 a1, .int .i64 a2, .int .i64 a3, .int .i64 a4, .slice A ps.length c] 112)).alloc (.cells #[.int .i64 0, .int .i64 0, .int .i64 0, .int .i64 0, .int .i64 0, .slice none 0 0] 80)).alloc (.cells #[.int .i64 a0, .int .i64 a1, .int .i64 a2, .int .i64 a3, .int .i64 a4, .slice none 0 0] 80)) := (hA1.trans (hA2.mono (by omega))).trans (hA3.mono (by omega))
  rw [hs1] at hx2
  rw [hs2] at hx3
  have H2 := Lib.hid hx2
  have H3 := Lib.hid hx3
  have HA := Lib.hid hA
  have HS1 := Lib.hid hs1
  have HS3 := Lib.hid hs3
  have hh := h.below hA hB
  clear hA1 hA2 hA3 hx2 hx3 hA hs1 hs2 hs3
  go_enter Try.func99, Try.ntmps99
  go_wp2_with fail
  refine (toInts_any _ ps B _ hh (by rw [HS3.out]; omega) hsz).mono ?_
  rintro e w1 ⟨r, rfl, ho, hb⟩
  rw [HS3.out] at ho hb
  obtain ⟨A2, c2, rfl, -⟩ := id (ho.sl (Nat.le_refl _))
  have hz := hb.size
  rw [HS3.out] at hz
  have hx2 := (hb.block _ (by omega)).trans H2.out
  have hx3 := (hb.block _ (by omega)).trans H3.out
  have HB := Lib.hid (HA.out.trans (hb.mono (by omega)))
  have HO := Lib.hid ho
  obtain ⟨⟨p0, p1, p2, p3, p4, p5⟩, pf, pl⟩ := box6 hx2
  obtain ⟨⟨q0, q1, q2, q3, q4, q5⟩, qf, ql⟩ := box6 hx3
  have hxA : (w1.setCell ⟨w.heap.size + 1 + 1, 5, none⟩ (.slice A2 ps.length c2)).heap[w.heap.size + 1]? = some (.cells #[.int .i64 0, .int .i64 0, .int .i64 0, .int .i64 0, .int .i64 0, .slice none 0 0] 80) := by
    rw [Below.heap_setCell _ _ _ _ (by simp)]; exact hx2
  obtain ⟨g1, g2, g3, g4⟩ := box6_set (.int .i64 a0) (.int .i64 a1) (.int .i64 a2) (.int .i64 a3) (.int .i64 a4) (.slice A2 ps.length c2) hxA
  obtain ⟨⟨e0, e1, e2, e3, e4, e5⟩, -, -⟩ := box6 g1
  have HG2 := Lib.hid g2
  have HG3 := Lib.hid g3
  have HG4 := Lib.hid (HB.out.trans ((setB (B := w.heap.size) (p := ⟨w.heap.size + 1 + 1, 5, none⟩) (x := .slice A2 ps.length c2) (by simp only; omega) (Below.refl _ w1)).trans (g4 w.heap.size (by omega))))
  have f0 := pf 0
  have f1 := pf 1
  have f2 := pf 2
  have f3 := pf 3
  have f4 := pf 4
  have f5 := pf 5
  have f6 := qf 5
  clear pf qf g1 g2 g3 g4 hxA hx2 hx3 ho hb H2 H3 HA HS1 HS3 h hh
  go_wp2_with fail
  refine bodyPost_ret (v := .agg #[.int .i64 a0, .int .i64 a1, .int .i64 a2, .int .i64 a3, .int .i64 a4, .slice A2 ps.length c2]) (by simp [results, Try.results99, go_sem, e0, e1, e2, e3, e4, e5]) rfl ?_
  refine ⟨_, rfl, ?_, ?_⟩
  · refine (HO.out.keep fun k h1 h2 => ?_).mono (by omega) (by rw [HG3.out]; simp [World.setCell])
    rw [HG2.out k (by omega), Below.heap_setCell _ _ _ _ (by simp only; omega)]
  · exact HG4.out
end Go.Proofs.Ytbefioljddhhpaa
