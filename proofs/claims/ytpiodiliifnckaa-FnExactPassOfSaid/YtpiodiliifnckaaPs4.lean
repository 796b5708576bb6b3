/-
  Contracts: PassOf of the program and of the reference.
-/
import Derived.Test.YtpiodiliifnckaaPs3
import Derived.Lib.QuietBelow
namespace Go.Proofs.Ytpiodiliifnckaa
set_option maxRecDepth 10000
open Go.RowKit Go.Sort

theorem cell_same {w : World} {a : Addr} {u : Value} (v : Value) (h : w.cell? a = some u) : (w.setCell a v).cell? a = some v := World.cell?_setCell_same w a v h
theorem cell_keep {w : World} {a b : Addr} {u : Value} (v : Value) (hne : a ≠ b) (h : w.cell? b = some u) : (w.setCell a v).cell? b = some u := by rw [World.cell?_setCell_other w a b v hne]; exact h
theorem below_set {B g o : Nat} {w w1 : World} {x : Value} (hp : B ≤ g) (h : Below B w w1) : Below B w (w1.setCell ⟨g, o, none⟩ x) :=
  ⟨h.os, h.tape, h.output, by simpa [World.setCell] using h.size, fun k hk => by rw [Below.heap_setCell _ _ _ _ (by simp only; omega)]; exact h.block k hk⟩
theorem six_sets (w : World) (g : Nat) (x0 x1 x2 x3 x4 x5 : Int) {u0 u1 u2 u3 u4 u5 : Value} (h0 : w.cell? ⟨g, 0, none⟩ = some u0) (h1 : w.cell? ⟨g, 1, none⟩ = some u1) (h2 : w.cell? ⟨g, 2, none⟩ = some u2) (h3 : w.cell? ⟨g, 3, none⟩ = some u3) (h4 : w.cell? ⟨g, 4, none⟩ = some u4) (h5 : w.cell? ⟨g, 5, none⟩ = some u5) :
    ∃ W : World, W = ((((((w.setCell ⟨g, 0, none⟩ (.int .i64 x0)).setCell ⟨g, 1, none⟩ (.int .i64 x1)).setCell ⟨g, 2, none⟩ (.int .i64 x2)).setCell ⟨g, 3, none⟩ (.int .i64 x3)).setCell ⟨g, 4, none⟩ (.int .i64 x4)).setCell ⟨g, 5, none⟩ (.int .i64 x5)) ∧ (W.cell? ⟨g, 0, none⟩ = some (.int .i64 x0) ∧ W.cell? ⟨g, 1, none⟩ = some (.int .i64 x1) ∧ W.cell? ⟨g, 2, none⟩ = some (.int .i64 x2) ∧ W.cell? ⟨g, 3, none⟩ = some (.int .i64 x3) ∧ W.cell? ⟨g, 4, none⟩ = some (.int .i64 x4) ∧ W.cell? ⟨g, 5, none⟩ = some (.int .i64 x5)) ∧ ∀ B, B ≤ g → Below B w W := by
  refine ⟨_, rfl, ?_, fun B hB => ?_⟩
  · have f0_0 := cell_same (.int .i64 x0) h0
    have f0_1 := cell_keep (.int .i64 x0) (a := ⟨g, 0, none⟩) (by simp) h1
    have f0_2 := cell_keep (.int .i64 x0) (a := ⟨g, 0, none⟩) (by simp) h2
    have f0_3 := cell_keep (.int .i64 x0) (a := ⟨g, 0, none⟩) (by simp) h3
    have f0_4 := cell_keep (.int .i64 x0) (a := ⟨g, 0, none⟩) (by simp) h4
    have f0_5 := cell_keep (.int .i64 x0) (a := ⟨g, 0, none⟩) (by simp) h5
    have f1_0 := cell_keep (.int .i64 x1) (a := ⟨g, 1, none⟩) (by simp) f0_0
    have f1_1 := cell_same (.int .i64 x1) f0_1
    have f1_2 := cell_keep (.int .i64 x1) (a := ⟨g, 1, none⟩) (by simp) f0_2
    have f1_3 := cell_keep (.int .i64 x1) (a := ⟨g, 1, none⟩) (by simp) f0_3
    have f1_4 := cell_keep (.int .i64 x1) (a := ⟨g, 1, none⟩) (by simp) f0_4
    have f1_5 := cell_keep (.int .i64 x1) (a := ⟨g, 1, none⟩) (by simp) f0_5
    have f2_0 := cell_keep (.int .i64 x2) (a := ⟨g, 2, none⟩) (by simp) f1_0
    have f2_1 := cell_keep (.int .i64 x2) (a := ⟨g, 2, none⟩) (by simp) f1_1
    have f2_2 := cell_same (.int .i64 x2) f1_2
    have f2_3 := cell_keep (.int .i64 x2) (a := ⟨g, 2, none⟩) (by simp) f1_3
    have f2_4 := cell_keep (.int .i64 x2) (a := ⟨g, 2, none⟩) (by simp) f1_4
    have f2_5 := cell_keep (.int .i64 x2) (a := ⟨g, 2, none⟩) (by simp) f1_5
    have f3_0 := cell_keep (.int .i64 x3) (a := ⟨g, 3, none⟩) (by simp) f2_0
    have f3_1 := cell_keep (.int .i64 x3) (a := ⟨g, 3, none⟩) (by simp) f2_1
    have f3_2 := cell_keep (.int .i64 x3) (a := ⟨g, 3, none⟩) (by simp) f2_2
    have f3_3 := cell_same (.int .i64 x3) f2_3
    have f3_4 := cell_keep (.int .i64 x3) (a := ⟨g, 3, none⟩) (by simp) f2_4
    have f3_5 := cell_keep (.int .i64 x3) (a := ⟨g, 3, none⟩) (by simp) f2_5
    have f4_0 := cell_keep (.int .i64 x4) (a := ⟨g, 4, none⟩) (by simp) f3_0
    have f4_1 := cell_keep (.int .i64 x4) (a := ⟨g, 4, none⟩) (by simp) f3_1
    have f4_2 := cell_keep (.int .i64 x4) (a := ⟨g, 4, none⟩) (by simp) f3_2
    have f4_3 := cell_keep (.int .i64 x4) (a := ⟨g, 4, none⟩) (by simp) f3_3
    have f4_4 := cell_same (.int .i64 x4) f3_4
    have f4_5 := cell_keep (.int .i64 x4) (a := ⟨g, 4, none⟩) (by simp) f3_5
    have f5_0 := cell_keep (.int .i64 x5) (a := ⟨g, 5, none⟩) (by simp) f4_0
    have f5_1 := cell_keep (.int .i64 x5) (a := ⟨g, 5, none⟩) (by simp) f4_1
    have f5_2 := cell_keep (.int .i64 x5) (a := ⟨g, 5, none⟩) (by simp) f4_2
    have f5_3 := cell_keep (.int .i64 x5) (a := ⟨g, 5, none⟩) (by simp) f4_3
    have f5_4 := cell_keep (.int .i64 x5) (a := ⟨g, 5, none⟩) (by simp) f4_4
    have f5_5 := cell_same (.int .i64 x5) f4_5
    exact ⟨f5_0, f5_1, f5_2, f5_3, f5_4, f5_5⟩
  · exact (below_set hB (below_set hB (below_set hB (below_set hB (below_set hB (below_set hB (Below.refl B w)))))))
/-- The pass that holds the place k: the first one; nothing if there is none. -/
def inP (k : Int) (p : List Int) : Bool := inR k (gi p 4) (gi p 4 + gi p 5 - 1)
def poGo (k : Int) : List (List Int) → List Int × Int
  | [] => ([0, 0, 0, 0, 0, 0], 3)
  | p :: t => if inP k p = true then (p, 0) else poGo k t
def poA (os : List (List Int)) (k : Int) : List Int × Int :=
  if okOps 24 os = true then (if inR k 0 (os.length - 1) = true then poGo k (psUp os os.length).1 else ([0, 0, 0, 0, 0, 0], 2)) else ([0, 0, 0, 0, 0, 0], 1)
theorem poGo_hit {k : Int} {ps : List (List Int)} {j : Nat} (hj : j < ps.length) (h : inP k (gl ps j) = true) : poGo k (ps.drop j) = (gl ps j, 0) := by rw [drop_gl hj, poGo, if_pos h]
theorem poGo_next {k : Int} {ps : List (List Int)} {j : Nat} (hj : j < ps.length) (h : inP k (gl ps j) = false) : poGo k (ps.drop j) = poGo k (ps.drop (j + 1)) := by rw [drop_gl hj, poGo, if_neg (by rw [h]; exact Bool.false_ne_true)]
set_option maxRecDepth 100000 in
set_option maxHeartbeats 3200000 in
theorem impl_PassOf_any (v : Value) (os : List (List Int)) (k : Int) (B : Nat) (w : World) (h : SlR 8 w B v os) (hB : B ≤ w.heap.size) :
    Calls Try.prog 32 #[v, .int .i64 k] w fun e w' => e = .returned (.tuple #[.agg #[.int .i64 (gi (poA os k).1 0), .int .i64 (gi (poA os k).1 1), .int .i64 (gi (poA os k).1 2), .int .i64 (gi (poA os k).1 3), .int .i64 (gi (poA os k).1 4), .int .i64 (gi (poA os k).1 5)], .int .i64 (poA os k).2]) ∧ Below w.heap.size w w' := by
  obtain ⟨A, c, rfl, hl, hm, -⟩ := id h
  unfold maxLen at hm
  have hA := al1 w (.cells #[.int .i64 0, .int .i64 0, .int .i64 0, .int .i64 0, .int .i64 0, .int .i64 0] 42)
  have h1 := h.below hA hB
  have hB1 := Nat.le_trans hB hA.size
  have hfz : ∀ (w' : World) (B' : Nat), w.heap.size < B' → Below B' (w.alloc (.cells #[.int .i64 0, .int .i64 0, .int .i64 0, .int .i64 0, .int .i64 0, .int .i64 0] 42)) w' → w'.cell? ⟨w.heap.size, 0, none⟩ = some (.int .i64 0) ∧ w'.cell? ⟨w.heap.size, 1, none⟩ = some (.int .i64 0) ∧ w'.cell? ⟨w.heap.size, 2, none⟩ = some (.int .i64 0) ∧ w'.cell? ⟨w.heap.size, 3, none⟩ = some (.int .i64 0) ∧ w'.cell? ⟨w.heap.size, 4, none⟩ = some (.int .i64 0) ∧ w'.cell? ⟨w.heap.size, 5, none⟩ = some (.int .i64 0) ∧ w'.frozen? ⟨w.heap.size, 0, none⟩ = false ∧ w'.frozen? ⟨w.heap.size, 1, none⟩ = false ∧ w'.frozen? ⟨w.heap.size, 2, none⟩ = false ∧ w'.frozen? ⟨w.heap.size, 3, none⟩ = false ∧ w'.frozen? ⟨w.heap.size, 4, none⟩ = false ∧ w'.frozen? ⟨w.heap.size, 5, none⟩ = false := fun w' B' hlt hb => by
    refine ⟨?_, ?_, ?_, ?_, ?_, ?_, ?_, ?_, ?_, ?_, ?_, ?_⟩
    all_goals first | (rw [hb.cell hlt]; simp; done) | (rw [hb.frozen hlt]; simp; done)
  have HFZ := Lib.hid hfz
  clear hfz
  cases hok : okOps 24 os
  · have H1 := Lib.hid (show poA os k = ([0, 0, 0, 0, 0, 0], 1) by simp [poA, hok])
    go_enter Try.func32, Try.ntmps32
    go_wp2_with fail
    refine (is_below hok (areOps_any _ os B _ h1 hB1)).mono ?_
    rintro e w1 ⟨rfl, hb1⟩
    have hz1 : w.heap.size < w1.heap.size := by have := hb1.size; simp at this; omega
    have hbb1 := hA.trans (hb1.mono hA.size)
    obtain ⟨c0, c1, c2, c3, c4, c5, f0, f1, f2, f3, f4, f5⟩ := HFZ.out w1 _ (by simp) hb1
    obtain ⟨W, hW, ⟨e0, e1, e2, e3, e4, e5⟩, hbW⟩ := six_sets w1 w.heap.size (0) (0) (0) (0) (0) (0) c0 c1 c2 c3 c4 c5
    have HW := Lib.hid hW
    have HBW := Lib.hid (hbb1.trans (hbW _ (Nat.le_refl _)))
    clear hW hbW
    go_wp2_with fail
    rw [← HW.out]
    refine bodyPost_ret (v := .tuple #[.agg #[.int .i64 (0), .int .i64 (0), .int .i64 (0), .int .i64 (0), .int .i64 (0), .int .i64 (0)], .int .i64 1]) (by simp [results, Try.results32, go_sem, e0, e1, e2, e3, e4, e5]) rfl ?_
    exact ⟨by first | (rw [H1.out]; done) | (rw [H1.out]; rfl), HBW.out⟩
  · have h15 := (okOps_parts hok).2.1
    cases hin : inR k 0 (os.length - 1)
    · have H1 := Lib.hid (show poA os k = ([0, 0, 0, 0, 0, 0], 2) by simp [poA, hok, hin])
      go_enter Try.func32, Try.ntmps32
      go_wp2_with fail
      refine (is_below hok (areOps_any _ os B _ h1 hB1)).mono ?_
      rintro e w1 ⟨rfl, hb1⟩
      have hz1 : w.heap.size < w1.heap.size := by have := hb1.size; simp at this; omega
      have hbb1 := hA.trans (hb1.mono hA.size)
      obtain ⟨c0, c1, c2, c3, c4, c5, f0, f1, f2, f3, f4, f5⟩ := HFZ.out w1 _ (by simp) hb1
      obtain ⟨W, hW, ⟨e0, e1, e2, e3, e4, e5⟩, hbW⟩ := six_sets w1 w.heap.size (0) (0) (0) (0) (0) (0) c0 c1 c2 c3 c4 c5
      have HW := Lib.hid hW
      have HBW := Lib.hid (hbb1.trans (hbW _ (Nat.le_refl _)))
      clear hW hbW
      go_wp2_with (first | (go_at_call 52; refine (is_same hin (within_any _ _ _ _)).mono ?_; rintro e w' ⟨rfl, rfl⟩))
      rw [← HW.out]
      refine bodyPost_ret (v := .tuple #[.agg #[.int .i64 (0), .int .i64 (0), .int .i64 (0), .int .i64 (0), .int .i64 (0), .int .i64 (0)], .int .i64 2]) (by simp [results, Try.results32, go_sem, e0, e1, e2, e3, e4, e5]) rfl ?_
      exact ⟨by first | (rw [H1.out]; done) | (rw [H1.out]; rfl), HBW.out⟩
    · have hinv := psUp_inv hok os.length (Nat.le_refl _)
      have hrow := hinv.row
      have hln := hinv.len
      have hP1 : poA os k = poGo k (psUp os os.length).1 := by rw [poA, if_pos hok, if_pos hin]
      obtain ⟨ps, hps⟩ : ∃ ps, ps = (psUp os os.length).1 := ⟨_, rfl⟩
      rw [← hps] at hrow hln hP1
      have HROW := Lib.hid hrow
      have H1 := Lib.hid hP1
      have HPS := Lib.hid hps
      clear hrow hinv hP1 hps
      go_enter Try.func32, Try.ntmps32
      go_wp2_with fail
      refine (is_below hok (areOps_any _ os B _ h1 hB1)).mono ?_
      rintro e w1 ⟨rfl, hb1⟩
      have hz1 : w.heap.size < w1.heap.size := by have := hb1.size; simp at this; omega
      have hbb1 := hA.trans (hb1.mono hA.size)
      go_wp2_with (first | (go_at_call 52; refine (is_same hin (within_any _ _ _ _)).mono ?_; rintro e w' ⟨rfl, rfl⟩))
      refine (passes_any _ os B _ (h.below hbb1 hB) (Nat.le_trans hB hbb1.size) hok).mono ?_
      rintro e w2 ⟨r, rfl, hO, hb2⟩
      rw [← HPS.out] at hO
      have hbb2 := hbb1.trans (hb2.mono hbb1.size)
      have hz2 : w.heap.size < w2.heap.size := Nat.lt_of_lt_of_le hz1 hb2.size
      obtain ⟨A2, cp2, rfl, hl2, hm2, h6, hcells⟩ := id (hO.sl (Nat.le_refl _))
      unfold maxLen at hm2
      have HC := Lib.hid hcells
      clear hcells hO h6
      have hk0 : w.heap.size < w2.heap.size := hz2
      have HF2 := Lib.hid (HFZ.out w2 _ (show w.heap.size < (w.alloc (.cells #[.int .i64 0, .int .i64 0, .int .i64 0, .int .i64 0, .int .i64 0, .int .i64 0] 42)).heap.size by simp) (hb1.trans (hb2.mono hb1.size)))
      go_wp2_with fail
      go_loopw [22] (fun i wr => ∃ j : Nat, j ≤ ps.length ∧ i = .int .i64 j ∧ Hid (poGo k ps = poGo k (ps.drop j)) ∧ Below w2.heap.size w2 wr) (fun i _ => ps.length - (intOf i).toNat)
      case atStart => exact ⟨0, Nat.zero_le _, rfl, Lib.hid rfl, Below.refl _ _⟩
      case round =>
        obtain ⟨j, hj, rfl, HE, hb3⟩ := hrel
        have hbb3 := hbb2.trans (hb3.mono hbb2.size)
        have hz3 : w.heap.size < wr.heap.size := Nat.lt_of_lt_of_le hz2 hb3.size
        have c0 : wr.cell? ⟨w.heap.size, 0, none⟩ = some (.int .i64 0) := by rw [hb3.cell hz2]; exact HF2.out.1
        have c1 : wr.cell? ⟨w.heap.size, 1, none⟩ = some (.int .i64 0) := by rw [hb3.cell hz2]; exact HF2.out.2.1
        have c2 : wr.cell? ⟨w.heap.size, 2, none⟩ = some (.int .i64 0) := by rw [hb3.cell hz2]; exact HF2.out.2.2.1
        have c3 : wr.cell? ⟨w.heap.size, 3, none⟩ = some (.int .i64 0) := by rw [hb3.cell hz2]; exact HF2.out.2.2.2.1
        have c4 : wr.cell? ⟨w.heap.size, 4, none⟩ = some (.int .i64 0) := by rw [hb3.cell hz2]; exact HF2.out.2.2.2.2.1
        have c5 : wr.cell? ⟨w.heap.size, 5, none⟩ = some (.int .i64 0) := by rw [hb3.cell hz2]; exact HF2.out.2.2.2.2.2.1
        have f0 : wr.frozen? ⟨w.heap.size, 0, none⟩ = false := by rw [hb3.frozen hz2]; exact HF2.out.2.2.2.2.2.2.1
        have f1 : wr.frozen? ⟨w.heap.size, 1, none⟩ = false := by rw [hb3.frozen hz2]; exact HF2.out.2.2.2.2.2.2.2.1
        have f2 : wr.frozen? ⟨w.heap.size, 2, none⟩ = false := by rw [hb3.frozen hz2]; exact HF2.out.2.2.2.2.2.2.2.2.1
        have f3 : wr.frozen? ⟨w.heap.size, 3, none⟩ = false := by rw [hb3.frozen hz2]; exact HF2.out.2.2.2.2.2.2.2.2.2.1
        have f4 : wr.frozen? ⟨w.heap.size, 4, none⟩ = false := by rw [hb3.frozen hz2]; exact HF2.out.2.2.2.2.2.2.2.2.2.2.1
        have f5 : wr.frozen? ⟨w.heap.size, 5, none⟩ = false := by rw [hb3.frozen hz2]; exact HF2.out.2.2.2.2.2.2.2.2.2.2.2
        by_cases hlt : j < ps.length
        · obtain ⟨b, off, rfl, hbB, hcell⟩ := HC.out (by omega)
          have q0 : wr.cell? ⟨b, off + j * 6, none⟩ = some (.int .i64 (gi (gl ps j) 0)) := by rw [hb3.cell (by simp only; omega)]; exact hcell j hlt 0 (by omega)
          have q1 : wr.cell? ⟨b, off + j * 6 + 1, none⟩ = some (.int .i64 (gi (gl ps j) 1)) := by rw [hb3.cell (by simp only; omega)]; exact hcell j hlt 1 (by omega)
          have q2 : wr.cell? ⟨b, off + j * 6 + 2, none⟩ = some (.int .i64 (gi (gl ps j) 2)) := by rw [hb3.cell (by simp only; omega)]; exact hcell j hlt 2 (by omega)
          have q3 : wr.cell? ⟨b, off + j * 6 + 3, none⟩ = some (.int .i64 (gi (gl ps j) 3)) := by rw [hb3.cell (by simp only; omega)]; exact hcell j hlt 3 (by omega)
          have q4 : wr.cell? ⟨b, off + j * 6 + 4, none⟩ = some (.int .i64 (gi (gl ps j) 4)) := by rw [hb3.cell (by simp only; omega)]; exact hcell j hlt 4 (by omega)
          have q5 : wr.cell? ⟨b, off + j * 6 + 5, none⟩ = some (.int .i64 (gi (gl ps j) 5)) := by rw [hb3.cell (by simp only; omega)]; exact hcell j hlt 5 (by omega)
          obtain ⟨r6, -, ⟨a4, a4'⟩, ⟨a5, a5'⟩, -⟩ := HROW.out _ (gl_mem hlt)
          have h15b : gi (gl ps j) 5 ≤ 1500 := by omega
          clear hcell
          cases hit : inR k (gi (gl ps j) 4) (gi (gl ps j) 4 + gi (gl ps j) 5 - 1)
          · have HN := Lib.hid (HE.out.trans (poGo_next hlt hit))
            have ha := al1 wr (.cells #[.int .i64 (gi (gl ps j) 0), .int .i64 (gi (gl ps j) 1), .int .i64 (gi (gl ps j) 2), .int .i64 (gi (gl ps j) 3), .int .i64 (gi (gl ps j) 4), .int .i64 (gi (gl ps j) 5)] 42)
            go_wp2_with (first | (go_at_call 52; refine (is_same hit (within_any _ _ _ _)).mono ?_; rintro e w' ⟨rfl, rfl⟩))
            go_roundw
            case rel => exact ⟨j + 1, by omega, by go_num, HN, hb3.trans (ha.mono hb3.size)⟩
            case measure => simp [intOf]; omega
          · have HN := Lib.hid (H1.out.trans (HE.out.trans (poGo_hit hlt hit)))
            go_wp2_with fail
            refine (is_same hit (within_any _ _ _ _)).mono ?_
            rintro e w' ⟨rfl, rfl⟩
            have hax := al1 wr (.cells #[.int .i64 (gi (gl ps j) 0), .int .i64 (gi (gl ps j) 1), .int .i64 (gi (gl ps j) 2), .int .i64 (gi (gl ps j) 3), .int .i64 (gi (gl ps j) 4), .int .i64 (gi (gl ps j) 5)] 42)
            have y0 : (wr.alloc (.cells #[.int .i64 (gi (gl ps j) 0), .int .i64 (gi (gl ps j) 1), .int .i64 (gi (gl ps j) 2), .int .i64 (gi (gl ps j) 3), .int .i64 (gi (gl ps j) 4), .int .i64 (gi (gl ps j) 5)] 42)).cell? ⟨wr.heap.size, 0, none⟩ = some (.int .i64 (gi (gl ps j) 0)) := by simp
            have y1 : (wr.alloc (.cells #[.int .i64 (gi (gl ps j) 0), .int .i64 (gi (gl ps j) 1), .int .i64 (gi (gl ps j) 2), .int .i64 (gi (gl ps j) 3), .int .i64 (gi (gl ps j) 4), .int .i64 (gi (gl ps j) 5)] 42)).cell? ⟨wr.heap.size, 1, none⟩ = some (.int .i64 (gi (gl ps j) 1)) := by simp
            have y2 : (wr.alloc (.cells #[.int .i64 (gi (gl ps j) 0), .int .i64 (gi (gl ps j) 1), .int .i64 (gi (gl ps j) 2), .int .i64 (gi (gl ps j) 3), .int .i64 (gi (gl ps j) 4), .int .i64 (gi (gl ps j) 5)] 42)).cell? ⟨wr.heap.size, 2, none⟩ = some (.int .i64 (gi (gl ps j) 2)) := by simp
            have y3 : (wr.alloc (.cells #[.int .i64 (gi (gl ps j) 0), .int .i64 (gi (gl ps j) 1), .int .i64 (gi (gl ps j) 2), .int .i64 (gi (gl ps j) 3), .int .i64 (gi (gl ps j) 4), .int .i64 (gi (gl ps j) 5)] 42)).cell? ⟨wr.heap.size, 3, none⟩ = some (.int .i64 (gi (gl ps j) 3)) := by simp
            have y4 : (wr.alloc (.cells #[.int .i64 (gi (gl ps j) 0), .int .i64 (gi (gl ps j) 1), .int .i64 (gi (gl ps j) 2), .int .i64 (gi (gl ps j) 3), .int .i64 (gi (gl ps j) 4), .int .i64 (gi (gl ps j) 5)] 42)).cell? ⟨wr.heap.size, 4, none⟩ = some (.int .i64 (gi (gl ps j) 4)) := by simp
            have y5 : (wr.alloc (.cells #[.int .i64 (gi (gl ps j) 0), .int .i64 (gi (gl ps j) 1), .int .i64 (gi (gl ps j) 2), .int .i64 (gi (gl ps j) 3), .int .i64 (gi (gl ps j) 4), .int .i64 (gi (gl ps j) 5)] 42)).cell? ⟨wr.heap.size, 5, none⟩ = some (.int .i64 (gi (gl ps j) 5)) := by simp
            replace c0 : (wr.alloc (.cells #[.int .i64 (gi (gl ps j) 0), .int .i64 (gi (gl ps j) 1), .int .i64 (gi (gl ps j) 2), .int .i64 (gi (gl ps j) 3), .int .i64 (gi (gl ps j) 4), .int .i64 (gi (gl ps j) 5)] 42)).cell? ⟨w.heap.size, 0, none⟩ = some (.int .i64 0) := by rw [World.cell?_alloc_lt _ _ _ hz3]; exact c0
            replace c1 : (wr.alloc (.cells #[.int .i64 (gi (gl ps j) 0), .int .i64 (gi (gl ps j) 1), .int .i64 (gi (gl ps j) 2), .int .i64 (gi (gl ps j) 3), .int .i64 (gi (gl ps j) 4), .int .i64 (gi (gl ps j) 5)] 42)).cell? ⟨w.heap.size, 1, none⟩ = some (.int .i64 0) := by rw [World.cell?_alloc_lt _ _ _ hz3]; exact c1
            replace c2 : (wr.alloc (.cells #[.int .i64 (gi (gl ps j) 0), .int .i64 (gi (gl ps j) 1), .int .i64 (gi (gl ps j) 2), .int .i64 (gi (gl ps j) 3), .int .i64 (gi (gl ps j) 4), .int .i64 (gi (gl ps j) 5)] 42)).cell? ⟨w.heap.size, 2, none⟩ = some (.int .i64 0) := by rw [World.cell?_alloc_lt _ _ _ hz3]; exact c2
            replace c3 : (wr.alloc (.cells #[.int .i64 (gi (gl ps j) 0), .int .i64 (gi (gl ps j) 1), .int .i64 (gi (gl ps j) 2), .int .i64 (gi (gl ps j) 3), .int .i64 (gi (gl ps j) 4), .int .i64 (gi (gl ps j) 5)] 42)).cell? ⟨w.heap.size, 3, none⟩ = some (.int .i64 0) := by rw [World.cell?_alloc_lt _ _ _ hz3]; exact c3
            replace c4 : (wr.alloc (.cells #[.int .i64 (gi (gl ps j) 0), .int .i64 (gi (gl ps j) 1), .int .i64 (gi (gl ps j) 2), .int .i64 (gi (gl ps j) 3), .int .i64 (gi (gl ps j) 4), .int .i64 (gi (gl ps j) 5)] 42)).cell? ⟨w.heap.size, 4, none⟩ = some (.int .i64 0) := by rw [World.cell?_alloc_lt _ _ _ hz3]; exact c4
            replace c5 : (wr.alloc (.cells #[.int .i64 (gi (gl ps j) 0), .int .i64 (gi (gl ps j) 1), .int .i64 (gi (gl ps j) 2), .int .i64 (gi (gl ps j) 3), .int .i64 (gi (gl ps j) 4), .int .i64 (gi (gl ps j) 5)] 42)).cell? ⟨w.heap.size, 5, none⟩ = some (.int .i64 0) := by rw [World.cell?_alloc_lt _ _ _ hz3]; exact c5
            replace f0 : (wr.alloc (.cells #[.int .i64 (gi (gl ps j) 0), .int .i64 (gi (gl ps j) 1), .int .i64 (gi (gl ps j) 2), .int .i64 (gi (gl ps j) 3), .int .i64 (gi (gl ps j) 4), .int .i64 (gi (gl ps j) 5)] 42)).frozen? ⟨w.heap.size, 0, none⟩ = false := by rw [hax.frozen hz3]; exact f0
            replace f1 : (wr.alloc (.cells #[.int .i64 (gi (gl ps j) 0), .int .i64 (gi (gl ps j) 1), .int .i64 (gi (gl ps j) 2), .int .i64 (gi (gl ps j) 3), .int .i64 (gi (gl ps j) 4), .int .i64 (gi (gl ps j) 5)] 42)).frozen? ⟨w.heap.size, 1, none⟩ = false := by rw [hax.frozen hz3]; exact f1
            replace f2 : (wr.alloc (.cells #[.int .i64 (gi (gl ps j) 0), .int .i64 (gi (gl ps j) 1), .int .i64 (gi (gl ps j) 2), .int .i64 (gi (gl ps j) 3), .int .i64 (gi (gl ps j) 4), .int .i64 (gi (gl ps j) 5)] 42)).frozen? ⟨w.heap.size, 2, none⟩ = false := by rw [hax.frozen hz3]; exact f2
            replace f3 : (wr.alloc (.cells #[.int .i64 (gi (gl ps j) 0), .int .i64 (gi (gl ps j) 1), .int .i64 (gi (gl ps j) 2), .int .i64 (gi (gl ps j) 3), .int .i64 (gi (gl ps j) 4), .int .i64 (gi (gl ps j) 5)] 42)).frozen? ⟨w.heap.size, 3, none⟩ = false := by rw [hax.frozen hz3]; exact f3
            replace f4 : (wr.alloc (.cells #[.int .i64 (gi (gl ps j) 0), .int .i64 (gi (gl ps j) 1), .int .i64 (gi (gl ps j) 2), .int .i64 (gi (gl ps j) 3), .int .i64 (gi (gl ps j) 4), .int .i64 (gi (gl ps j) 5)] 42)).frozen? ⟨w.heap.size, 4, none⟩ = false := by rw [hax.frozen hz3]; exact f4
            replace f5 : (wr.alloc (.cells #[.int .i64 (gi (gl ps j) 0), .int .i64 (gi (gl ps j) 1), .int .i64 (gi (gl ps j) 2), .int .i64 (gi (gl ps j) 3), .int .i64 (gi (gl ps j) 4), .int .i64 (gi (gl ps j) 5)] 42)).frozen? ⟨w.heap.size, 5, none⟩ = false := by rw [hax.frozen hz3]; exact f5
            have hbx := hbb3.trans (hax.mono hbb3.size)
            clear q0 q1 q2 q3 q4 q5 hax
            generalize wr.alloc (.cells #[.int .i64 (gi (gl ps j) 0), .int .i64 (gi (gl ps j) 1), .int .i64 (gi (gl ps j) 2), .int .i64 (gi (gl ps j) 3), .int .i64 (gi (gl ps j) 4), .int .i64 (gi (gl ps j) 5)] 42) = wx at *
            obtain ⟨W, hW, ⟨e0, e1, e2, e3, e4, e5⟩, hbW⟩ := six_sets wx w.heap.size (gi (gl ps j) 0) (gi (gl ps j) 1) (gi (gl ps j) 2) (gi (gl ps j) 3) (gi (gl ps j) 4) (gi (gl ps j) 5) c0 c1 c2 c3 c4 c5
            have HW := Lib.hid hW
            have HBW := Lib.hid (hbx.trans (hbW _ (Nat.le_refl _)))
            clear hW hbW
            go_wp2_with fail
            rw [← HW.out]
            refine bodyPost_ret (v := .tuple #[.agg #[.int .i64 (gi (gl ps j) 0), .int .i64 (gi (gl ps j) 1), .int .i64 (gi (gl ps j) 2), .int .i64 (gi (gl ps j) 3), .int .i64 (gi (gl ps j) 4), .int .i64 (gi (gl ps j) 5)], .int .i64 0]) (by simp [results, Try.results32, go_sem, e0, e1, e2, e3, e4, e5]) rfl ?_
            exact ⟨by first | (rw [HN.out]; done) | (rw [HN.out]; rfl), HBW.out⟩
        · obtain rfl : j = ps.length := by omega
          have HN := Lib.hid (H1.out.trans (HE.out.trans (show poGo k (ps.drop ps.length) = ([0, 0, 0, 0, 0, 0], 3) by rw [List.drop_length]; rfl)))
          obtain ⟨W, hW, ⟨e0, e1, e2, e3, e4, e5⟩, hbW⟩ := six_sets wr w.heap.size (0) (0) (0) (0) (0) (0) c0 c1 c2 c3 c4 c5
          have HW := Lib.hid hW
          have HBW := Lib.hid (hbb3.trans (hbW _ (Nat.le_refl _)))
          clear hW hbW
          go_wp2_with fail
          rw [← HW.out]
          refine bodyPost_ret (v := .tuple #[.agg #[.int .i64 (0), .int .i64 (0), .int .i64 (0), .int .i64 (0), .int .i64 (0), .int .i64 (0)], .int .i64 3]) (by simp [results, Try.results32, go_sem, e0, e1, e2, e3, e4, e5]) rfl ?_
          exact ⟨by first | (rw [HN.out]; done) | (rw [HN.out]; rfl), HBW.out⟩
set_option maxRecDepth 100000 in
set_option maxHeartbeats 3200000 in
theorem spec_PassOf_any (v : Value) (os : List (List Int)) (k : Int) (B : Nat) (w : World) (h : SlR 8 w B v os) (hB : B ≤ w.heap.size) :
    Calls Try.prog 31 #[v, .int .i64 k] w fun e w' => e = .returned (.tuple #[.agg #[.int .i64 (gi (poA os k).1 0), .int .i64 (gi (poA os k).1 1), .int .i64 (gi (poA os k).1 2), .int .i64 (gi (poA os k).1 3), .int .i64 (gi (poA os k).1 4), .int .i64 (gi (poA os k).1 5)], .int .i64 (poA os k).2]) ∧ Below w.heap.size w w' := by
  obtain ⟨A, c, rfl, hl, hm, -⟩ := id h
  unfold maxLen at hm
  have hA := al1 w (.cells #[.int .i64 0, .int .i64 0, .int .i64 0, .int .i64 0, .int .i64 0, .int .i64 0] 42)
  have h1 := h.below hA hB
  have hB1 := Nat.le_trans hB hA.size
  have hfz : ∀ (w' : World) (B' : Nat), w.heap.size < B' → Below B' (w.alloc (.cells #[.int .i64 0, .int .i64 0, .int .i64 0, .int .i64 0, .int .i64 0, .int .i64 0] 42)) w' → w'.cell? ⟨w.heap.size, 0, none⟩ = some (.int .i64 0) ∧ w'.cell? ⟨w.heap.size, 1, none⟩ = some (.int .i64 0) ∧ w'.cell? ⟨w.heap.size, 2, none⟩ = some (.int .i64 0) ∧ w'.cell? ⟨w.heap.size, 3, none⟩ = some (.int .i64 0) ∧ w'.cell? ⟨w.heap.size, 4, none⟩ = some (.int .i64 0) ∧ w'.cell? ⟨w.heap.size, 5, none⟩ = some (.int .i64 0) ∧ w'.frozen? ⟨w.heap.size, 0, none⟩ = false ∧ w'.frozen? ⟨w.heap.size, 1, none⟩ = false ∧ w'.frozen? ⟨w.heap.size, 2, none⟩ = false ∧ w'.frozen? ⟨w.heap.size, 3, none⟩ = false ∧ w'.frozen? ⟨w.heap.size, 4, none⟩ = false ∧ w'.frozen? ⟨w.heap.size, 5, none⟩ = false := fun w' B' hlt hb => by
    refine ⟨?_, ?_, ?_, ?_, ?_, ?_, ?_, ?_, ?_, ?_, ?_, ?_⟩
    all_goals first | (rw [hb.cell hlt]; simp; done) | (rw [hb.frozen hlt]; simp; done)
  have HFZ := Lib.hid hfz
  clear hfz
  cases hok : okOps 24 os
  · have H1 := Lib.hid (show poA os k = ([0, 0, 0, 0, 0, 0], 1) by simp [poA, hok])
    go_enter Try.func31, Try.ntmps31
    go_wp2_with fail
    refine (is_below hok (l09Ops_any _ os B _ h1 hB1)).mono ?_
    rintro e w1 ⟨rfl, hb1⟩
    have hz1 : w.heap.size < w1.heap.size := by have := hb1.size; simp at this; omega
    have hbb1 := hA.trans (hb1.mono hA.size)
    obtain ⟨c0, c1, c2, c3, c4, c5, f0, f1, f2, f3, f4, f5⟩ := HFZ.out w1 _ (by simp) hb1
    obtain ⟨W, hW, ⟨e0, e1, e2, e3, e4, e5⟩, hbW⟩ := six_sets w1 w.heap.size (0) (0) (0) (0) (0) (0) c0 c1 c2 c3 c4 c5
    have HW := Lib.hid hW
    have HBW := Lib.hid (hbb1.trans (hbW _ (Nat.le_refl _)))
    clear hW hbW
    go_wp2_with fail
    rw [← HW.out]
    refine bodyPost_ret (v := .tuple #[.agg #[.int .i64 (0), .int .i64 (0), .int .i64 (0), .int .i64 (0), .int .i64 (0), .int .i64 (0)], .int .i64 1]) (by simp [results, Try.results31, go_sem, e0, e1, e2, e3, e4, e5]) rfl ?_
    exact ⟨by first | (rw [H1.out]; done) | (rw [H1.out]; rfl), HBW.out⟩
  · have h15 := (okOps_parts hok).2.1
    cases hin : inR k 0 (os.length - 1)
    · have H1 := Lib.hid (show poA os k = ([0, 0, 0, 0, 0, 0], 2) by simp [poA, hok, hin])
      go_enter Try.func31, Try.ntmps31
      go_wp2_with fail
      refine (is_below hok (l09Ops_any _ os B _ h1 hB1)).mono ?_
      rintro e w1 ⟨rfl, hb1⟩
      have hz1 : w.heap.size < w1.heap.size := by have := hb1.size; simp at this; omega
      have hbb1 := hA.trans (hb1.mono hA.size)
      obtain ⟨c0, c1, c2, c3, c4, c5, f0, f1, f2, f3, f4, f5⟩ := HFZ.out w1 _ (by simp) hb1
      obtain ⟨W, hW, ⟨e0, e1, e2, e3, e4, e5⟩, hbW⟩ := six_sets w1 w.heap.size (0) (0) (0) (0) (0) (0) c0 c1 c2 c3 c4 c5
      have HW := Lib.hid hW
      have HBW := Lib.hid (hbb1.trans (hbW _ (Nat.le_refl _)))
      clear hW hbW
      go_wp2_with (first | (go_at_call 51; refine (is_same hin (l00In_any _ _ _ _)).mono ?_; rintro e w' ⟨rfl, rfl⟩))
      rw [← HW.out]
      refine bodyPost_ret (v := .tuple #[.agg #[.int .i64 (0), .int .i64 (0), .int .i64 (0), .int .i64 (0), .int .i64 (0), .int .i64 (0)], .int .i64 2]) (by simp [results, Try.results31, go_sem, e0, e1, e2, e3, e4, e5]) rfl ?_
      exact ⟨by first | (rw [H1.out]; done) | (rw [H1.out]; rfl), HBW.out⟩
    · have hinv := psUp_inv hok os.length (Nat.le_refl _)
      have hrow := hinv.row
      have hln := hinv.len
      have hP1 : poA os k = poGo k (psUp os os.length).1 := by rw [poA, if_pos hok, if_pos hin]
      obtain ⟨ps, hps⟩ : ∃ ps, ps = (psUp os os.length).1 := ⟨_, rfl⟩
      rw [← hps] at hrow hln hP1
      have HROW := Lib.hid hrow
      have H1 := Lib.hid hP1
      have HPS := Lib.hid hps
      clear hrow hinv hP1 hps
      go_enter Try.func31, Try.ntmps31
      go_wp2_with fail
      refine (is_below hok (l09Ops_any _ os B _ h1 hB1)).mono ?_
      rintro e w1 ⟨rfl, hb1⟩
      have hz1 : w.heap.size < w1.heap.size := by have := hb1.size; simp at this; omega
      have hbb1 := hA.trans (hb1.mono hA.size)
      go_wp2_with (first | (go_at_call 51; refine (is_same hin (l00In_any _ _ _ _)).mono ?_; rintro e w' ⟨rfl, rfl⟩))
      refine (l09Passes_any _ os B _ (h.below hbb1 hB) (Nat.le_trans hB hbb1.size) hok).mono ?_
      rintro e w2 ⟨r, rfl, hO, hb2⟩
      rw [← HPS.out] at hO
      have hbb2 := hbb1.trans (hb2.mono hbb1.size)
      have hz2 : w.heap.size < w2.heap.size := Nat.lt_of_lt_of_le hz1 hb2.size
      obtain ⟨A2, cp2, rfl, hl2, hm2, h6, hcells⟩ := id (hO.sl (Nat.le_refl _))
      unfold maxLen at hm2
      have HC := Lib.hid hcells
      clear hcells hO h6
      have hk0 : w.heap.size < w2.heap.size := hz2
      have HF2 := Lib.hid (HFZ.out w2 _ (show w.heap.size < (w.alloc (.cells #[.int .i64 0, .int .i64 0, .int .i64 0, .int .i64 0, .int .i64 0, .int .i64 0] 42)).heap.size by simp) (hb1.trans (hb2.mono hb1.size)))
      go_wp2_with fail
      go_loopw [7] (fun i wr => ∃ j : Nat, j ≤ ps.length ∧ i = .int .i64 j ∧ Hid (poGo k ps = poGo k (ps.drop j)) ∧ Below w2.heap.size w2 wr) (fun i _ => ps.length - (intOf i).toNat)
      case atStart => exact ⟨0, Nat.zero_le _, rfl, Lib.hid rfl, Below.refl _ _⟩
      case round =>
        obtain ⟨j, hj, rfl, HE, hb3⟩ := hrel
        have hbb3 := hbb2.trans (hb3.mono hbb2.size)
        have hz3 : w.heap.size < wr.heap.size := Nat.lt_of_lt_of_le hz2 hb3.size
        have c0 : wr.cell? ⟨w.heap.size, 0, none⟩ = some (.int .i64 0) := by rw [hb3.cell hz2]; exact HF2.out.1
        have c1 : wr.cell? ⟨w.heap.size, 1, none⟩ = some (.int .i64 0) := by rw [hb3.cell hz2]; exact HF2.out.2.1
        have c2 : wr.cell? ⟨w.heap.size, 2, none⟩ = some (.int .i64 0) := by rw [hb3.cell hz2]; exact HF2.out.2.2.1
        have c3 : wr.cell? ⟨w.heap.size, 3, none⟩ = some (.int .i64 0) := by rw [hb3.cell hz2]; exact HF2.out.2.2.2.1
        have c4 : wr.cell? ⟨w.heap.size, 4, none⟩ = some (.int .i64 0) := by rw [hb3.cell hz2]; exact HF2.out.2.2.2.2.1
        have c5 : wr.cell? ⟨w.heap.size, 5, none⟩ = some (.int .i64 0) := by rw [hb3.cell hz2]; exact HF2.out.2.2.2.2.2.1
        have f0 : wr.frozen? ⟨w.heap.size, 0, none⟩ = false := by rw [hb3.frozen hz2]; exact HF2.out.2.2.2.2.2.2.1
        have f1 : wr.frozen? ⟨w.heap.size, 1, none⟩ = false := by rw [hb3.frozen hz2]; exact HF2.out.2.2.2.2.2.2.2.1
        have f2 : wr.frozen? ⟨w.heap.size, 2, none⟩ = false := by rw [hb3.frozen hz2]; exact HF2.out.2.2.2.2.2.2.2.2.1
        have f3 : wr.frozen? ⟨w.heap.size, 3, none⟩ = false := by rw [hb3.frozen hz2]; exact HF2.out.2.2.2.2.2.2.2.2.2.1
        have f4 : wr.frozen? ⟨w.heap.size, 4, none⟩ = false := by rw [hb3.frozen hz2]; exact HF2.out.2.2.2.2.2.2.2.2.2.2.1
        have f5 : wr.frozen? ⟨w.heap.size, 5, none⟩ = false := by rw [hb3.frozen hz2]; exact HF2.out.2.2.2.2.2.2.2.2.2.2.2
        by_cases hlt : j < ps.length
        · obtain ⟨b, off, rfl, hbB, hcell⟩ := HC.out (by omega)
          have q0 : wr.cell? ⟨b, off + j * 6, none⟩ = some (.int .i64 (gi (gl ps j) 0)) := by rw [hb3.cell (by simp only; omega)]; exact hcell j hlt 0 (by omega)
          have q1 : wr.cell? ⟨b, off + j * 6 + 1, none⟩ = some (.int .i64 (gi (gl ps j) 1)) := by rw [hb3.cell (by simp only; omega)]; exact hcell j hlt 1 (by omega)
          have q2 : wr.cell? ⟨b, off + j * 6 + 2, none⟩ = some (.int .i64 (gi (gl ps j) 2)) := by rw [hb3.cell (by simp only; omega)]; exact hcell j hlt 2 (by omega)
          have q3 : wr.cell? ⟨b, off + j * 6 + 3, none⟩ = some (.int .i64 (gi (gl ps j) 3)) := by rw [hb3.cell (by simp only; omega)]; exact hcell j hlt 3 (by omega)
          have q4 : wr.cell? ⟨b, off + j * 6 + 4, none⟩ = some (.int .i64 (gi (gl ps j) 4)) := by rw [hb3.cell (by simp only; omega)]; exact hcell j hlt 4 (by omega)
          have q5 : wr.cell? ⟨b, off + j * 6 + 5, none⟩ = some (.int .i64 (gi (gl ps j) 5)) := by rw [hb3.cell (by simp only; omega)]; exact hcell j hlt 5 (by omega)
          obtain ⟨r6, -, ⟨a4, a4'⟩, ⟨a5, a5'⟩, -⟩ := HROW.out _ (gl_mem hlt)
          have h15b : gi (gl ps j) 5 ≤ 1500 := by omega
          clear hcell
          cases hit : inR k (gi (gl ps j) 4) (gi (gl ps j) 4 + gi (gl ps j) 5 - 1)
          · have HN := Lib.hid (HE.out.trans (poGo_next hlt hit))
            go_wp2_with fail
            go_quiet (first | (go_at_call 51; first | exact quiet_same_on (is_same hit (l00In_any _ _ _ _)) | exact quiet_same (is_same hit (l00In_any _ _ _ _))))
            go_wp2_with fail
            go_roundw
            case rel => exact ⟨j + 1, by omega, by go_num, HN, below_drewN hb3 _⟩
            case measure => simp [intOf]; omega
          · have HN := Lib.hid (H1.out.trans (HE.out.trans (poGo_hit hlt hit)))
            go_wp2_with fail
            go_quiet (first | (go_at_call 51; first | exact quiet_same_on (is_same hit (l00In_any _ _ _ _)) | exact quiet_same (is_same hit (l00In_any _ _ _ _))))
            have y0 : (wr.drewN nq).cell? ⟨b, off + j * 6, none⟩ = some (.int .i64 (gi (gl ps j) 0)) := q0
            have y1 : (wr.drewN nq).cell? ⟨b, off + j * 6 + 1, none⟩ = some (.int .i64 (gi (gl ps j) 1)) := q1
            have y2 : (wr.drewN nq).cell? ⟨b, off + j * 6 + 2, none⟩ = some (.int .i64 (gi (gl ps j) 2)) := q2
            have y3 : (wr.drewN nq).cell? ⟨b, off + j * 6 + 3, none⟩ = some (.int .i64 (gi (gl ps j) 3)) := q3
            have y4 : (wr.drewN nq).cell? ⟨b, off + j * 6 + 4, none⟩ = some (.int .i64 (gi (gl ps j) 4)) := q4
            have y5 : (wr.drewN nq).cell? ⟨b, off + j * 6 + 5, none⟩ = some (.int .i64 (gi (gl ps j) 5)) := q5
            have d0 : (wr.drewN nq).cell? ⟨w.heap.size, 0, none⟩ = some (.int .i64 0) := c0
            have d1 : (wr.drewN nq).cell? ⟨w.heap.size, 1, none⟩ = some (.int .i64 0) := c1
            have d2 : (wr.drewN nq).cell? ⟨w.heap.size, 2, none⟩ = some (.int .i64 0) := c2
            have d3 : (wr.drewN nq).cell? ⟨w.heap.size, 3, none⟩ = some (.int .i64 0) := c3
            have d4 : (wr.drewN nq).cell? ⟨w.heap.size, 4, none⟩ = some (.int .i64 0) := c4
            have d5 : (wr.drewN nq).cell? ⟨w.heap.size, 5, none⟩ = some (.int .i64 0) := c5
            have v0 : (wr.drewN nq).frozen? ⟨w.heap.size, 0, none⟩ = false := f0
            have v1 : (wr.drewN nq).frozen? ⟨w.heap.size, 1, none⟩ = false := f1
            have v2 : (wr.drewN nq).frozen? ⟨w.heap.size, 2, none⟩ = false := f2
            have v3 : (wr.drewN nq).frozen? ⟨w.heap.size, 3, none⟩ = false := f3
            have v4 : (wr.drewN nq).frozen? ⟨w.heap.size, 4, none⟩ = false := f4
            have v5 : (wr.drewN nq).frozen? ⟨w.heap.size, 5, none⟩ = false := f5
            have hbx := below_drewN hbb3 nq
            clear q0 q1 q2 q3 q4 q5 c0 c1 c2 c3 c4 c5 f0 f1 f2 f3 f4 f5
            generalize wr.drewN nq = wx at *
            obtain ⟨W, hW, ⟨e0, e1, e2, e3, e4, e5⟩, hbW⟩ := six_sets wx w.heap.size (gi (gl ps j) 0) (gi (gl ps j) 1) (gi (gl ps j) 2) (gi (gl ps j) 3) (gi (gl ps j) 4) (gi (gl ps j) 5) d0 d1 d2 d3 d4 d5
            have HW := Lib.hid hW
            have HBW := Lib.hid (hbx.trans (hbW _ (Nat.le_refl _)))
            clear hW hbW
            go_wp2_with fail
            rw [← HW.out]
            refine bodyPost_ret (v := .tuple #[.agg #[.int .i64 (gi (gl ps j) 0), .int .i64 (gi (gl ps j) 1), .int .i64 (gi (gl ps j) 2), .int .i64 (gi (gl ps j) 3), .int .i64 (gi (gl ps j) 4), .int .i64 (gi (gl ps j) 5)], .int .i64 0]) (by simp [results, Try.results31, go_sem, e0, e1, e2, e3, e4, e5]) rfl ?_
            exact ⟨by first | (rw [HN.out]; done) | (rw [HN.out]; rfl), HBW.out⟩
        · obtain rfl : j = ps.length := by omega
          have HN := Lib.hid (H1.out.trans (HE.out.trans (show poGo k (ps.drop ps.length) = ([0, 0, 0, 0, 0, 0], 3) by rw [List.drop_length]; rfl)))
          obtain ⟨W, hW, ⟨e0, e1, e2, e3, e4, e5⟩, hbW⟩ := six_sets wr w.heap.size (0) (0) (0) (0) (0) (0) c0 c1 c2 c3 c4 c5
          have HW := Lib.hid hW
          have HBW := Lib.hid (hbb3.trans (hbW _ (Nat.le_refl _)))
          clear hW hbW
          go_wp2_with fail
          rw [← HW.out]
          refine bodyPost_ret (v := .tuple #[.agg #[.int .i64 (0), .int .i64 (0), .int .i64 (0), .int .i64 (0), .int .i64 (0), .int .i64 (0)], .int .i64 3]) (by simp [results, Try.results31, go_sem, e0, e1, e2, e3, e4, e5]) rfl ?_
          exact ⟨by first | (rw [HN.out]; done) | (rw [HN.out]; rfl), HBW.out⟩
set_option maxHeartbeats 800000 in
theorem eqPass_yes (k d c r f n : Int) (w : World) : Calls Try.prog 33 #[.agg #[.int .i64 k, .int .i64 d, .int .i64 c, .int .i64 r, .int .i64 f, .int .i64 n], .agg #[.int .i64 k, .int .i64 d, .int .i64 c, .int .i64 r, .int .i64 f, .int .i64 n]] w fun e w' => e = .returned (.bool true) ∧ Below w.heap.size w w' := by
  go_enter Try.func33, Try.ntmps33
  go_wp2
  go_ret
  exact ⟨rfl, al2 _ _ _⟩
end Go.Proofs.Ytpiodiliifnckaa
