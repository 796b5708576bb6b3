/-
  Contracts: equality of carriers and of descriptions of loops. Printed by gen_sm.py.
-/
import Derived.Test.YtbefioljddhhpaaEqs
namespace Go.Proofs.Ytbefioljddhhpaa
set_option maxRecDepth 10000
open Go.RowKit

theorem gc_ext {D E : List (Bool × Int)} (hl : D.length = E.length) (h : ∀ j, j < D.length → gc D j = gc E j) : D = E := by
  apply List.ext_getElem hl
  intro i h1 h2
  have := h i h1
  rwa [gc_eq h1, gc_eq h2] at this
set_option maxHeartbeats 1600000 in
theorem equalCars_any {v1 v2 : Value} {D E : List (Bool × Int)} {B1 B2 : Nat} {w : World} (h1 : SlK w B1 v1 D) (h2 : SlK w B2 v2 E) :
    Calls Try.prog 68 #[v1, v2] w fun e w' => e = .returned (.bool (decide (D = E))) ∧ ∃ n, w' = w.drewN n := by
  obtain ⟨A1, c1, rfl, hl1, hm1, hc1⟩ := h1.cells
  obtain ⟨A2, c2, rfl, hl2, hm2, hc2⟩ := h2.cells
  by_cases hlen : D.length = E.length
  · have hb : ((D.length : Int) != (E.length : Int)) = false := by rw [hlen]; simp
    have HL := Lib.hid hlen
    have HC1 := Lib.hid hc1
    have HC2 := Lib.hid hc2
    clear hlen hc1 hc2 h1 h2
    go_enter Try.func68, Try.ntmps68
    go_wp2
    go_loopw [13] (fun i wr => ∃ k : Nat, k ≤ D.length ∧ i = .int .i64 k ∧ (∀ j, j < k → gc D j = gc E j) ∧ ∃ n, wr = w.drewN n) (fun i _ => D.length - (intOf i).toNat)
    case atStart => exact ⟨0, Nat.zero_le _, rfl, fun j h => absurd h (Nat.not_lt_zero _), 0, rfl⟩
    case round =>
      obtain ⟨k, hk, rfl, heq, n, rfl⟩ := hrel
      have HE := Lib.hid heq
      clear heq
      by_cases hlt : k < D.length
      · obtain ⟨b1, o1, rfl, hb1, hcell1⟩ := HC1.out (by omega)
        obtain ⟨b2, o2, rfl, hb2, hcell2⟩ := HC2.out (by have := HL.out; omega)
        have hlt2 : k < E.length := by have := HL.out; omega
        obtain ⟨p0, p1⟩ := hcell1 k hlt
        obtain ⟨q0, q1⟩ := hcell2 k hlt2
        clear hcell1 hcell2
        by_cases hx : gc D k = gc E k
        · have HX := Lib.hid (show ∀ j, j < k + 1 → gc D j = gc E j from fun j hj => by
            by_cases hjk : j < k
            · exact HE.out j hjk
            · obtain rfl : j = k := by omega
              exact hx)
          rw [← hx] at q0 q1
          clear hx
          generalize (gc D k).1 = x1 at *
          generalize (gc D k).2 = x2 at *
          have t1 : (x1 != x1) = false := by simp
          have t2 : (x1 == x1) = true := by simp
          go_wp2_with fail
          go_quiet (fail)
          go_wp2
          go_roundw
          case rel => exact ⟨k + 1, by omega, by go_num, HX.out, _, rfl⟩
          case measure => simp [intOf]; omega
        · have HNB := Lib.hid (show decide (D = E) = false by simp; exact fun e => hx (by rw [e]))
          have hx2 : ¬ ((gc D k).1 = (gc E k).1 ∧ (gc D k).2 = (gc E k).2) := fun e => hx (Prod.ext e.1 e.2)
          clear hx
          generalize (gc D k).1 = x1 at *
          generalize (gc D k).2 = x2 at *
          generalize (gc E k).1 = y1 at *
          generalize (gc E k).2 = y2 at *
          by_cases e1 : x1 = y1
          · subst e1
            have e2 : ¬ x2 = y2 := fun e => hx2 ⟨rfl, e⟩
            have t1 : (x1 != x1) = false := by simp
            have t2 : (x1 == x1) = true := by simp
            have t3 : (x2 != y2) = true := by simp [e2]
            have t4 : (x2 == y2) = false := by simp [e2]
            clear hx2
            go_wp2_with fail
            go_quiet (fail)
            go_wp2
            go_ret
            exact ⟨ret_bool HNB.out.symm, quiet_end _ _ _⟩
          · have t3 : (x1 != y1) = true := by simp [e1]
            have t4 : (x1 == y1) = false := by simp [e1]
            clear hx2
            go_wp2_with fail
            go_quiet (fail)
            go_wp2
            go_ret
            exact ⟨ret_bool HNB.out.symm, quiet_end _ _ _⟩
      · have HE2 := HE
        go_wp2
        go_ret
        have hxy : D = E := gc_ext HL.out fun j hj => HE.out j (by omega)
        exact ⟨ret_bool (by simp [hxy]), _, rfl⟩
  · have hb : ((D.length : Int) != (E.length : Int)) = true := by simp; omega
    have HNB := Lib.hid (show decide (D = E) = false by simp; exact fun e => hlen (by rw [e]))
    clear hlen hc1 hc2
    go_enter Try.func68, Try.ntmps68
    go_wp2
    go_ret
    exact ⟨ret_bool HNB.out.symm, 0, rfl⟩
theorem equalCars_is {v1 v2 : Value} {D E : List (Bool × Int)} {B1 B2 : Nat} {w : World} {T : Bool} (hT : decide (D = E) = T) (h1 : SlK w B1 v1 D) (h2 : SlK w B2 v2 E) :
    Calls Try.prog 68 #[v1, v2] w fun e w' => e = .returned (.bool T) ∧ Below w.heap.size w w' :=
  (equalCars_any h1 h2).mono fun _ _ ⟨h, n, hw⟩ => ⟨by rw [h, hT], by rw [hw]; exact drewN_below w _ n⟩
def five (o p : List Int) : Prop := gi o 0 = gi p 0 ∧ gi o 1 = gi p 1 ∧ gi o 2 = gi p 2 ∧ gi o 3 = gi p 3 ∧ gi o 4 = gi p 4
theorem inf_eq {o p : List Int} (h1 : 5 ≤ o.length) (h2 : 5 ≤ p.length) : o = p ↔ (gi o 0 = gi p 0 ∧ gi o 1 = gi p 1 ∧ gi o 2 = gi p 2 ∧ gi o 3 = gi p 3 ∧ gi o 4 = gi p 4 ∧ o.drop 5 = p.drop 5) := by
  constructor
  · rintro rfl
    exact ⟨rfl, rfl, rfl, rfl, rfl, rfl⟩
  · rintro ⟨e0, e1, e2, e3, e4, e5⟩
    rw [← list5 h1, ← list5 h2, e0, e1, e2, e3, e4, e5]
set_option maxHeartbeats 3200000 in
theorem sameInf_any {a0 a1 a2 a3 a4 b0 b1 b2 b3 b4 : Int} {v u : Value} {ps qs : List Int} {B1 B2 : Nat} {w : World} {T : Bool} (hT : decide (a0 = b0 ∧ a1 = b1 ∧ a2 = b2 ∧ a3 = b3 ∧ a4 = b4 ∧ ps = qs) = T) (h1 : Sl w B1 v ps) (h2 : Sl w B2 u qs) (hB1 : B1 ≤ w.heap.size) (hB2 : B2 ≤ w.heap.size) :
    Calls Try.prog 71 #[.agg #[.int .i64 a0, .int .i64 a1, .int .i64 a2, .int .i64 a3, .int .i64 a4, v], .agg #[.int .i64 b0, .int .i64 b1, .int .i64 b2, .int .i64 b3, .int .i64 b4, u]] w fun e w' => e = .returned (.bool T) ∧ Below w.heap.size w w' := by
  obtain ⟨A1, c1, rfl, -⟩ := id h1
  obtain ⟨A2, c2, rfl, -⟩ := id h2
  have g1 := h1.below (al2 w (.cells #[.int .i64 a0, .int .i64 a1, .int .i64 a2, .int .i64 a3, .int .i64 a4, .slice A1 ps.length c1] 80) (.cells #[.int .i64 b0, .int .i64 b1, .int .i64 b2, .int .i64 b3, .int .i64 b4, .slice A2 qs.length c2] 80)) hB1
  have g2 := h2.below (al2 w (.cells #[.int .i64 a0, .int .i64 a1, .int .i64 a2, .int .i64 a3, .int .i64 a4, .slice A1 ps.length c1] 80) (.cells #[.int .i64 b0, .int .i64 b1, .int .i64 b2, .int .i64 b3, .int .i64 b4, .slice A2 qs.length c2] 80)) hB2
  clear h1 h2
  by_cases e0 : a0 = b0
  · subst e0
    by_cases e1 : a1 = b1
    · subst e1
      by_cases e2 : a2 = b2
      · subst e2
        by_cases e3 : a3 = b3
        · subst e3
          by_cases e4 : a4 = b4
          · subst e4
            cases hE : decide (ps = qs)
            · have HT : Hid (T = false) := Lib.hid (by rw [← hT]; simpa using hE)
              clear hT
              go_enter Try.func71, Try.ntmps71
              go_wp2_with fail
              refine (equalInts_is hE g1 g2).mono ?_
              rintro e w1 ⟨rfl, hq⟩
              have HQ := Lib.hid ((al2 w _ _).trans (hq.mono (by simp; omega)))
              clear hq
              go_wp2_with fail
              go_ret
              exact ⟨ret_bool HT.out.symm, HQ.out⟩
            · have HT : Hid (T = true) := Lib.hid (by rw [← hT]; simpa using hE)
              clear hT
              go_enter Try.func71, Try.ntmps71
              go_wp2_with fail
              refine (equalInts_is hE g1 g2).mono ?_
              rintro e w1 ⟨rfl, hq⟩
              have HQ := Lib.hid ((al2 w _ _).trans (hq.mono (by simp; omega)))
              clear hq
              go_wp2_with fail
              go_ret
              exact ⟨ret_bool HT.out.symm, HQ.out⟩
          · have HT : Hid (T = false) := Lib.hid (by rw [← hT]; simp [e4])
            have t4 : (a4 == b4) = false := by simp [e4]
            clear hT
            go_enter Try.func71, Try.ntmps71
            go_wp2
            go_ret
            exact ⟨ret_bool HT.out.symm, al2 _ _ _⟩
        · have HT : Hid (T = false) := Lib.hid (by rw [← hT]; simp [e3])
          have t3 : (a3 == b3) = false := by simp [e3]
          clear hT
          go_enter Try.func71, Try.ntmps71
          go_wp2
          go_ret
          exact ⟨ret_bool HT.out.symm, al2 _ _ _⟩
      · have HT : Hid (T = false) := Lib.hid (by rw [← hT]; simp [e2])
        have t2 : (a2 == b2) = false := by simp [e2]
        clear hT
        go_enter Try.func71, Try.ntmps71
        go_wp2
        go_ret
        exact ⟨ret_bool HT.out.symm, al2 _ _ _⟩
    · have HT : Hid (T = false) := Lib.hid (by rw [← hT]; simp [e1])
      have t1 : (a1 == b1) = false := by simp [e1]
      clear hT
      go_enter Try.func71, Try.ntmps71
      go_wp2
      go_ret
      exact ⟨ret_bool HT.out.symm, al2 _ _ _⟩
  · have HT : Hid (T = false) := Lib.hid (by rw [← hT]; simp [e0])
    have t0 : (a0 == b0) = false := by simp [e0]
    clear hT
    go_enter Try.func71, Try.ntmps71
    go_wp2
    go_ret
    exact ⟨ret_bool HT.out.symm, al2 _ _ _⟩
set_option maxHeartbeats 3200000 in
theorem equalInfs_any {v1 v2 : Value} {L M : List (List Int)} {B1 B2 : Nat} {w : World} (h1 : SlF w B1 v1 L) (h2 : SlF w B2 v2 M) (hB1 : B1 ≤ w.heap.size) (hB2 : B2 ≤ w.heap.size) (h5 : Five L) (k5 : Five M) :
    Calls Try.prog 70 #[v1, v2, .func (.func 71) #[] #[]] w fun e w' => e = .returned (.bool (decide (L = M))) ∧ Below w.heap.size w w' := by
  obtain ⟨A1, c1, rfl, hl1, hm1, hc1⟩ := h1.cells
  obtain ⟨A2, c2, rfl, hl2, hm2, hc2⟩ := h2.cells
  have H5 := Lib.hid h5
  have K5 := Lib.hid k5
  by_cases hlen : L.length = M.length
  · have hb : ((L.length : Int) != (M.length : Int)) = false := by rw [hlen]; simp
    have HL := Lib.hid hlen
    have HC1 := Lib.hid hc1
    have HC2 := Lib.hid hc2
    clear hlen hc1 hc2 h1 h2 h5 k5
    go_enter Try.func70, Try.ntmps70
    go_wp2
    go_loopw [17] (fun i wr => ∃ k : Nat, k ≤ L.length ∧ i = .int .i64 k ∧ (∀ j, j < k → gl L j = gl M j) ∧ Below w.heap.size w wr) (fun i _ => L.length - (intOf i).toNat)
    case atStart => exact ⟨0, Nat.zero_le _, rfl, fun j h => absurd h (Nat.not_lt_zero _), Below.refl _ _⟩
    case round =>
      obtain ⟨k, hk, rfl, heq, hb⟩ := hrel
      have HE := Lib.hid heq
      clear heq
      by_cases hlt : k < L.length
      · obtain ⟨b1, o1, rfl, hb1, hcell1⟩ := HC1.out (by omega)
        obtain ⟨b2, o2, rfl, hb2, hcell2⟩ := HC2.out (by have := HL.out; omega)
        have hlt2 : k < M.length := by have := HL.out; omega
        obtain ⟨hn, u1, q1, s1⟩ := hcell1 k hlt
        obtain ⟨hm, u2, q2, s2⟩ := hcell2 k hlt2
        have hz := hb.size
        obtain ⟨p0, p1, p2, p3, p4⟩ := five_of (w := wr) (b := b1) (o := o1 + k * 6) (f := fun j => gi (gl L k) j) fun j hj => by rw [hb.cell (by simp only; omega)]; exact hn j hj
        obtain ⟨r0, r1, r2, r3, r4⟩ := five_of (w := wr) (b := b2) (o := o2 + k * 6) (f := fun j => gi (gl M k) j) fun j hj => by rw [hb.cell (by simp only; omega)]; exact hm j hj
        have p5 : wr.cell? ⟨b1, o1 + k * 6 + 5, none⟩ = some u1 := by rw [hb.cell (by simp only; omega)]; exact q1
        have r5 : wr.cell? ⟨b2, o2 + k * 6 + 5, none⟩ = some u2 := by rw [hb.cell (by simp only; omega)]; exact q2
        have g1 := s1.below hb hB1
        have g2 := s2.below hb hB2
        obtain ⟨Au, cu, rfl, -⟩ := id g1
        obtain ⟨Av, cv, rfl, -⟩ := id g2
        have hbw2 : b2 < wr.heap.size := by omega
        have hbw1 : b1 < wr.heap.size := by omega
        clear hcell1 hcell2 hn hm q1 q2 s1 s2
        cases hT : decide (gi (gl L k) 0 = gi (gl M k) 0 ∧ gi (gl L k) 1 = gi (gl M k) 1 ∧ gi (gl L k) 2 = gi (gl M k) 2 ∧ gi (gl L k) 3 = gi (gl M k) 3 ∧ gi (gl L k) 4 = gi (gl M k) 4 ∧ (gl L k).drop 5 = (gl M k).drop 5)
        · have HNB := Lib.hid (show decide (L = M) = false by
            simp only [decide_eq_false_iff_not] at hT ⊢
            exact fun e => hT ((inf_eq (H5.out _ (gl_mem hlt)) (K5.out _ (gl_mem hlt2))).1 (by rw [e])))
          generalize gi (gl L k) 0 = x0 at *
          generalize gi (gl L k) 1 = x1 at *
          generalize gi (gl L k) 2 = x2 at *
          generalize gi (gl L k) 3 = x3 at *
          generalize gi (gl L k) 4 = x4 at *
          generalize gi (gl M k) 0 = y0 at *
          generalize gi (gl M k) 1 = y1 at *
          generalize gi (gl M k) 2 = y2 at *
          generalize gi (gl M k) 3 = y3 at *
          generalize gi (gl M k) 4 = y4 at *
          generalize (gl L k).drop 5 = ps at *
          generalize (gl M k).drop 5 = qs at *
          go_wp2_with fail
          refine (sameInf_any hT (g1.below (al2 _ _ _) (Nat.le_trans hB1 hz)) (g2.below (al2 _ _ _) (Nat.le_trans hB2 hz)) (by simp; omega) (by simp; omega)).mono ?_
          rintro e w1 ⟨rfl, hq⟩
          have HB := Lib.hid (hb.trans (((al2 wr _ _).trans (hq.mono (by simp; omega))).mono hz))
          clear hq hb
          go_wp2_with fail
          go_ret
          exact ⟨ret_bool HNB.out.symm, HB.out⟩
        · have HX := Lib.hid (show ∀ j, j < k + 1 → gl L j = gl M j from fun j hj => by
            by_cases hjk : j < k
            · exact HE.out j hjk
            · obtain rfl : j = k := by omega
              simp only [decide_eq_true_eq] at hT
              exact (inf_eq (H5.out _ (gl_mem hlt)) (K5.out _ (gl_mem hlt2))).2 hT)
          generalize gi (gl L k) 0 = x0 at *
          generalize gi (gl L k) 1 = x1 at *
          generalize gi (gl L k) 2 = x2 at *
          generalize gi (gl L k) 3 = x3 at *
          generalize gi (gl L k) 4 = x4 at *
          generalize gi (gl M k) 0 = y0 at *
          generalize gi (gl M k) 1 = y1 at *
          generalize gi (gl M k) 2 = y2 at *
          generalize gi (gl M k) 3 = y3 at *
          generalize gi (gl M k) 4 = y4 at *
          generalize (gl L k).drop 5 = ps at *
          generalize (gl M k).drop 5 = qs at *
          go_wp2_with fail
          refine (sameInf_any hT (g1.below (al2 _ _ _) (Nat.le_trans hB1 hz)) (g2.below (al2 _ _ _) (Nat.le_trans hB2 hz)) (by simp; omega) (by simp; omega)).mono ?_
          rintro e w1 ⟨rfl, hq⟩
          have HB := Lib.hid (hb.trans (((al2 wr _ _).trans (hq.mono (by simp; omega))).mono hz))
          clear hq hb
          go_wp2_with fail
          go_roundw
          case rel => exact ⟨k + 1, by omega, by go_num, HX.out, HB.out⟩
          case measure => simp [intOf]; omega
      · go_wp2
        go_ret
        have hxy : L = M := gl_ext HL.out fun j hj => HE.out j (by omega)
        exact ⟨ret_bool (by simp [hxy]), hb⟩
  · have hb : ((L.length : Int) != (M.length : Int)) = true := by simp; omega
    have HNB := Lib.hid (show decide (L = M) = false by simp; exact fun e => hlen (by rw [e]))
    clear hlen hc1 hc2
    go_enter Try.func70, Try.ntmps70
    go_wp2
    go_ret
    exact ⟨ret_bool HNB.out.symm, Below.refl _ _⟩
theorem equalInfs_is {v1 v2 : Value} {L M : List (List Int)} {B1 B2 : Nat} {w : World} {T : Bool} (hT : decide (L = M) = T) (h1 : SlF w B1 v1 L) (h2 : SlF w B2 v2 M) (hB1 : B1 ≤ w.heap.size) (hB2 : B2 ≤ w.heap.size) (h5 : Five L) (k5 : Five M) :
    Calls Try.prog 70 #[v1, v2, .func (.func 71) #[] #[]] w fun e w' => e = .returned (.bool T) ∧ Below w.heap.size w w' :=
  (equalInfs_any h1 h2 hB1 hB2 h5 k5).mono fun _ _ ⟨h, hw⟩ => ⟨by rw [h, hT], hw⟩
end Go.Proofs.Ytbefioljddhhpaa
