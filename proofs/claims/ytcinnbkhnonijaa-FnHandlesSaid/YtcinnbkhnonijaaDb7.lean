/-
  Contracts: the reference's inverse and join of braids, by value.
-/
import Derived.Test.YtcinnbkhnonijaaDb4
import Derived.Test.YtcinnbkhnonijaaGw3
namespace Go.Proofs.Ytcinnbkhnonijaa
set_option maxRecDepth 10000
open Go.RowKit

theorem _root_.Go.RowKit.Below.box {B g : Nat} {w w' : World} {o : Option Obj} (hb : Below B w w') (h : w.heap[g]? = o) (hg : g < B) : w'.heap[g]? = o := (hb.block g hg).trans h
theorem Chg.box {lo hi g : Nat} {w w' : World} {o : Option Obj} (hc : Chg lo hi w w') (h : w.heap[g]? = o) (hg : g < w.heap.size) (hd : g < lo ∨ hi ≤ g) : w'.heap[g]? = o := (hc.block g hg hd).trans h
/-- The strands and the word of the reference's inverse. -/
def ivN (n : Int) (xs : List Int) : Int := if okBr n xs = true then n else 0
def ivX (n : Int) (xs : List Int) : List Int := if okBr n xs = true then inv xs else []
set_option maxHeartbeats 1600000 in
theorem InvertBraid_any (n : Int) (v : Value) (xs : List Int) (B : Nat) (w : World) (h : Sl w B v xs) (hB : B ≤ w.heap.size) :
    Calls Try.prog 35 #[.agg #[.int .i64 n, v]] w fun e w' => ∃ r, e = .returned (.agg #[.int .i64 (ivN n xs), r]) ∧ SlI w.heap.size w'.heap.size w' r (ivX n xs) ∧ Below w.heap.size w w' := by
  obtain ⟨A, c, rfl, hcl, hcm, -⟩ := id h
  have hA := al1 w (.cells #[.int .i64 n, .slice A xs.length c] 26)
  have hx := alloc_at_ w (.cells #[.int .i64 n, .slice A xs.length c] 26)
  generalize hW : w.alloc (.cells #[.int .i64 n, .slice A xs.length c] 26) = W at hA hx
  have hWs : W.heap.size = w.heap.size + 1 := by rw [← hW]; simp
  have hA2 := al1 W (.cells #[.int .i64 0, .slice none 0 0] 26)
  have hx2 := alloc_at_ W (.cells #[.int .i64 0, .slice none 0 0] 26)
  have hy2 := hA2.box hx (by omega)
  generalize hW2 : W.alloc (.cells #[.int .i64 0, .slice none 0 0] 26) = W2 at hA2 hx2 hy2
  have hW2s : w.heap.size + 2 ≤ W2.heap.size := by rw [← hW2]; simp [hWs]
  rw [hWs] at hx2
  have hB2 : Below w.heap.size w W2 := hA.trans (hA2.mono (by omega))
  have hs2 := h.below hB2 hB
  clear hA hA2 hx
  obtain ⟨p0, p1, -, -, -⟩ := box2 hy2
  cases hok : okBr n xs
  · have HN := Lib.hid (show ivN n xs = 0 by simp [ivN, hok])
    have HX := Lib.hid (show ivX n xs = [] by simp [ivX, hok])
    go_enter Try.func35, Try.ntmps35
    go_wp2_with fail
    refine (l03Ok_is hok hs2 p0 p1).mono ?_
    rintro e w3 ⟨rfl, hb3⟩
    have hz3 := hb3.size
    have hx3 := hb3.box hx2 (by omega)
    have hb03 := hB2.trans (hb3.mono (by omega))
    obtain ⟨q0, q1, f0, f1, hg⟩ := box2 hx3
    obtain ⟨-, e1, e2⟩ := two_sets w3 (w.heap.size + 1) (.int .i64 0) (.slice none 0 0) q0 q1
    have HB := Lib.hid hb03
    clear hb03 hb3 hx2 hy2 hs2 hB2 hW hW2 hWs
    go_wp2_with fail
    refine bodyPost_ret (v := .agg #[.int .i64 0, .slice none 0 0]) (by simp [results, Try.results35, go_sem, e1, e2]) rfl ?_
    exact ⟨_, by rw [HN.out], by rw [HX.out]; exact (Ow.nil _ _ _).slI, HB.out.trans (set_below (by simp only; omega) (set_below (by simp only; omega) (Below.refl _ _)))⟩
  · have HN := Lib.hid (show ivN n xs = n by simp [ivN, hok])
    have HX := Lib.hid (show ivX n xs = inv xs by simp [ivX, hok])
    obtain ⟨k1, k2, k3, -⟩ := okBr_parts hok
    have HM := Lib.hid (okBr_mem hok)
    go_enter Try.func35, Try.ntmps35
    go_wp2_with fail
    refine (l03Ok_is hok hs2 p0 p1).mono ?_
    rintro e w3 ⟨rfl, hb3⟩
    have hz3 := hb3.size
    have hx3 := hb3.box hx2 (by omega)
    have hy3 := hb3.box hy2 (by omega)
    have hs3 := hs2.below hb3 (by omega)
    have hb03 := hB2.trans (hb3.mono (by omega))
    have HB := Lib.hid hb03
    clear hb03 hb3 hx2 hy2 hs2 hB2 hW hW2 hWs p0 p1
    obtain ⟨r0, r1, rf0, rf1, -⟩ := box2 hx3
    obtain ⟨q0, q1, -, -, hg⟩ := box2 hy3
    have HK := Lib.hid (fun w' (hw : Below w3.heap.size w3 w') => show (w'.cell? ⟨w.heap.size, 0, none⟩ = some (.int .i64 n) ∧ w'.cell? ⟨w.heap.size, 1, none⟩ = some (.slice A xs.length c)) ∧
        (w'.cell? ⟨w.heap.size + 1, 0, none⟩ = some (.int .i64 0) ∧ w'.cell? ⟨w.heap.size + 1, 1, none⟩ = some (.slice none 0 0) ∧ w'.frozen? ⟨w.heap.size + 1, 0, none⟩ = false ∧ w'.frozen? ⟨w.heap.size + 1, 1, none⟩ = false) from
      have e1 := hw.block w.heap.size (by omega)
      have e2 := hw.block (w.heap.size + 1) (by omega)
      ⟨⟨by rw [World.cell?_of_block (w := w3) e1]; exact q0, by rw [World.cell?_of_block (w := w3) e1]; exact q1⟩, by rw [World.cell?_of_block (w := w3) e2]; exact r0, by rw [World.cell?_of_block (w := w3) e2]; exact r1, by rw [World.frozen?_of_block (w := w3) e2]; exact rf0, by rw [World.frozen?_of_block (w := w3) e2]; exact rf1⟩)
    clear r0 r1 rf0 rf1
    have hsd : Sl w3.drew B (.slice A xs.length c) xs := hs3
    go_wp2_with fail
    go_region_law
      (go_simp; go_at_call 58; (refine (l03Inverse_any _ xs B _ hsd (show B ≤ w3.heap.size by omega) (by omega) (fun x hx => by have := HM.out x hx; omega)).mono ?_); rintro e w7 ⟨r7, rfl, hO7, hb7⟩; have hr7 : Below w3.heap.size w3 w7 := Below.trans (drewN_below _ _ _) hb7; obtain ⟨A7, c7, rfl, -⟩ := id (hO7.sl (Nat.le_refl _)); obtain ⟨⟨q07, q17⟩, r0, r1, rf0, rf1⟩ := HK.out _ hr7; dsimp only)
    all_goals
      have hz7 := hr7.size
      have hx7 := hr7.box hx3 (by omega)
      obtain ⟨⟨e1, e2⟩, hI9, hbl⟩ := fin_box (n := n) hx7 (show Ow w7 w3.heap.size w7.heap.size _ _ from hO7).slI (by omega) (Nat.le_refl _)
      have HI := Lib.hid (hI9.mono (lo' := w.heap.size) (by omega) (Nat.le_refl _))
      have HR := Lib.hid ((HB.out.trans (hr7.mono (by omega))).trans (hbl.mono (by omega)))
      clear hr7 HK hs3 hsd hb7 hI9 hbl hO7
      go_wp2_with fail
      refine bodyPost_ret (v := .agg #[.int .i64 n, .slice A7 (inv xs).length c7]) (by simp [results, Try.results35, go_sem, e1, e2]) rfl ?_
      exact ⟨_, by rw [HN.out], by rw [HX.out]; exact HI.out, HR.out⟩
/-- What the reference's join gives: strands, word, code. -/
def jnR (s : Int) (xs : List Int) (t : Int) (ys : List Int) : Int × List Int × Int :=
  if okBr s xs = true ∧ okBr t ys = true then if s = t then if xs.length + ys.length ≤ 40 then (s, xs ++ ys, 0) else (0, [], 5) else (0, [], 6) else (0, [], 1)
theorem jnR_ok {s t : Int} {xs ys : List Int} (h : (jnR s xs t ys).2.2 = 0) : okBr s xs = true ∧ okBr t ys = true ∧ s = t ∧ xs.length + ys.length ≤ 40 ∧ (jnR s xs t ys).1 = s ∧ (jnR s xs t ys).2.1 = xs ++ ys := by
  unfold jnR at *
  by_cases h1 : okBr s xs = true ∧ okBr t ys = true
  · rw [if_pos h1] at h ⊢
    by_cases h2 : s = t
    · rw [if_pos h2] at h ⊢
      by_cases h3 : xs.length + ys.length ≤ 40
      · rw [if_pos h3] at h ⊢
        exact ⟨h1.1, h1.2, h2, h3, rfl, rfl⟩
      · rw [if_neg h3] at h; simp at h
    · rw [if_neg h2] at h; simp at h
  · rw [if_neg h1] at h; simp at h
theorem jnR_bd (s : Int) (xs : List Int) (t : Int) (ys : List Int) : 0 ≤ (jnR s xs t ys).1 ∧ (jnR s xs t ys).1 ≤ 12 ∧ (jnR s xs t ys).2.1.length ≤ 40 ∧ 0 ≤ (jnR s xs t ys).2.2 ∧ (jnR s xs t ys).2.2 ≤ 6 := by
  unfold jnR
  split
  · rename_i h
    obtain ⟨k1, k2, -, -⟩ := okBr_parts h.1
    split
    · split
      · simp; omega
      · simp
    · simp
  · simp
set_option maxHeartbeats 3200000 in
theorem JoinBraids_any (s : Int) (v : Value) (xs : List Int) (t : Int) (u : Value) (ys : List Int) (B : Nat) (w : World) (h : Sl w B v xs) (h2 : Sl w B u ys) (hB : B ≤ w.heap.size) :
    Calls Try.prog 24 #[.agg #[.int .i64 s, v], .agg #[.int .i64 t, u]] w fun e w' => ∃ r, e = .returned (.tuple #[.agg #[.int .i64 (jnR s xs t ys).1, r], .int .i64 (jnR s xs t ys).2.2]) ∧ SlI w.heap.size w'.heap.size w' r (jnR s xs t ys).2.1 ∧ Below w.heap.size w w' := by
  obtain ⟨A, c, rfl, hcl, hcm, -⟩ := id h
  obtain ⟨A2, c2, rfl, hcl2, hcm2, -⟩ := id h2
  have hA := al1 w (.cells #[.int .i64 s, .slice A xs.length c] 26)
  have hx := alloc_at_ w (.cells #[.int .i64 s, .slice A xs.length c] 26)
  generalize hW : w.alloc (.cells #[.int .i64 s, .slice A xs.length c] 26) = W at hA hx
  have hWs : W.heap.size = w.heap.size + 1 := by rw [← hW]; simp
  have hA2 := al1 W (.cells #[.int .i64 t, .slice A2 ys.length c2] 26)
  have hy2 := alloc_at_ W (.cells #[.int .i64 t, .slice A2 ys.length c2] 26)
  have hx2 := hA2.box hx (by omega)
  generalize hW2 : W.alloc (.cells #[.int .i64 t, .slice A2 ys.length c2] 26) = W2 at hA2 hx2 hy2
  have hW2s : W2.heap.size = w.heap.size + 2 := by rw [← hW2]; simp [hWs]
  have hA3 := al1 W2 (.cells #[.int .i64 0, .slice none 0 0] 26)
  have hz3 := alloc_at_ W2 (.cells #[.int .i64 0, .slice none 0 0] 26)
  have hx3 := hA3.box hx2 (by omega)
  have hy3 := hA3.box hy2 (by omega)
  generalize hW3 : W2.alloc (.cells #[.int .i64 0, .slice none 0 0] 26) = W3 at hA3 hx3 hy3 hz3
  have hW3s : w.heap.size + 3 ≤ W3.heap.size := by rw [← hW3]; simp [hW2s]
  rw [hWs] at hy3
  rw [hW2s] at hz3
  have hB3 : Below w.heap.size w W3 := (hA.trans (hA2.mono (by omega))).trans (hA3.mono (by omega))
  have hs3 := h.below hB3 hB
  have ht3 := h2.below hB3 hB
  clear hA hA2 hA3 hx hx2 hy2 h h2
  obtain ⟨p0, p1, -, -, -⟩ := box2 hx3
  have hxl := hs3.len
  have hyl := ht3.len
  cases hok : okBr s xs
  · have HE := Lib.hid (show jnR s xs t ys = (0, [], 1) by unfold jnR; rw [if_neg (by simp [hok])])
    go_enter Try.func24, Try.ntmps24
    go_wp2_with fail
    refine (l03Ok_is hok hs3 p0 p1).mono ?_
    rintro e w4 ⟨rfl, hb4⟩
    have hz4 := hb4.size
    have hx4 := hb4.box hx3 (by omega)
    have hy4 := hb4.box hy3 (by omega)
    have hz4' := hb4.box hz3 (by omega)
    have hs4 := hs3.below hb4 (by omega)
    have ht4 := ht3.below hb4 (by omega)
    have hb04 := hB3.trans (hb4.mono (by omega))
    clear p0 p1 hb4 hx3 hy3 hz3 hs3 ht3 hB3 hW hW2 hW3 hWs hW2s
    have HB := Lib.hid hb04
    obtain ⟨u0, u1, uf0, uf1, hg⟩ := box2 hz4'
    obtain ⟨-, e1, e2⟩ := two_sets w4 (w.heap.size + 2) (.int .i64 0) (.slice none 0 0) u0 u1
    clear hb04
    go_wp2_with fail
    refine bodyPost_ret (v := .tuple #[.agg #[.int .i64 0, .slice none 0 0], .int .i64 1]) (by simp [results, Try.results24, go_sem, e1, e2]) rfl ?_
    exact ⟨_, by rw [HE.out], by rw [HE.out]; exact (Ow.nil _ _ _).slI, HB.out.trans (set_below (by simp only; omega) (set_below (by simp only; omega) (Below.refl _ _)))⟩
  · obtain ⟨k1, k2, k3, -⟩ := okBr_parts hok
    cases hok2 : okBr t ys
    · have HE := Lib.hid (show jnR s xs t ys = (0, [], 1) by unfold jnR; rw [if_neg (by simp [hok2])])
      go_enter Try.func24, Try.ntmps24
      go_wp2_with fail
      refine (l03Ok_is hok hs3 p0 p1).mono ?_
      rintro e w4 ⟨rfl, hb4⟩
      have hz4 := hb4.size
      have hx4 := hb4.box hx3 (by omega)
      have hy4 := hb4.box hy3 (by omega)
      have hz4' := hb4.box hz3 (by omega)
      have hs4 := hs3.below hb4 (by omega)
      have ht4 := ht3.below hb4 (by omega)
      have hb04 := hB3.trans (hb4.mono (by omega))
      clear p0 p1 hb4 hx3 hy3 hz3 hs3 ht3 hB3 hW hW2 hW3 hWs hW2s
      obtain ⟨p0, p1, -, -, -⟩ := box2 hx4
      obtain ⟨q0, q1, -, -, -⟩ := box2 hy4
      go_wp2_with fail
      refine (l03Ok_is hok2 ht4 q0 q1).mono ?_
      rintro e w5 ⟨rfl, hb5⟩
      have hz5s := hb5.size
      have hx5 := hb5.box hx4 (by omega)
      have hy5 := hb5.box hy4 (by omega)
      have hz5 := hb5.box hz4' (by omega)
      have hs5 := hs4.below hb5 (by omega)
      have ht5 := ht4.below hb5 (by omega)
      have hb05 := hb04.trans (hb5.mono (by omega))
      clear p0 p1 q0 q1 hb5 hx4 hy4 hz4' hs4 ht4 hb04
      have HB := Lib.hid hb05
      obtain ⟨u0, u1, uf0, uf1, hg⟩ := box2 hz5
      obtain ⟨-, e1, e2⟩ := two_sets w5 (w.heap.size + 2) (.int .i64 0) (.slice none 0 0) u0 u1
      clear hb05
      go_wp2_with fail
      refine bodyPost_ret (v := .tuple #[.agg #[.int .i64 0, .slice none 0 0], .int .i64 1]) (by simp [results, Try.results24, go_sem, e1, e2]) rfl ?_
      exact ⟨_, by rw [HE.out], by rw [HE.out]; exact (Ow.nil _ _ _).slI, HB.out.trans (set_below (by simp only; omega) (set_below (by simp only; omega) (Below.refl _ _)))⟩
    · obtain ⟨j1, j2, j3, -⟩ := okBr_parts hok2
      by_cases hst : s = t
      · have hsb : (s != t) = false := by simp [hst]
        by_cases hl40 : xs.length + ys.length ≤ 40
        · have HE := Lib.hid (show jnR s xs t ys = (s, xs ++ ys, 0) by unfold jnR; rw [if_pos ⟨hok, hok2⟩, if_pos hst, if_pos hl40])
          clear hst
          go_enter Try.func24, Try.ntmps24
          go_wp2_with fail
          refine (l03Ok_is hok hs3 p0 p1).mono ?_
          rintro e w4 ⟨rfl, hb4⟩
          have hz4 := hb4.size
          have hx4 := hb4.box hx3 (by omega)
          have hy4 := hb4.box hy3 (by omega)
          have hz4' := hb4.box hz3 (by omega)
          have hs4 := hs3.below hb4 (by omega)
          have ht4 := ht3.below hb4 (by omega)
          have hb04 := hB3.trans (hb4.mono (by omega))
          clear p0 p1 hb4 hx3 hy3 hz3 hs3 ht3 hB3 hW hW2 hW3 hWs hW2s
          obtain ⟨p0, p1, -, -, -⟩ := box2 hx4
          obtain ⟨q0, q1, -, -, -⟩ := box2 hy4
          go_wp2_with fail
          refine (l03Ok_is hok2 ht4 q0 q1).mono ?_
          rintro e w5 ⟨rfl, hb5⟩
          have hz5s := hb5.size
          have hx5 := hb5.box hx4 (by omega)
          have hy5 := hb5.box hy4 (by omega)
          have hz5 := hb5.box hz4' (by omega)
          have hs5 := hs4.below hb5 (by omega)
          have ht5 := ht4.below hb5 (by omega)
          have hb05 := hb04.trans (hb5.mono (by omega))
          clear p0 p1 q0 q1 hb5 hx4 hy4 hz4' hs4 ht4 hb04
          have HB := Lib.hid hb05
          obtain ⟨p0, p1, -, -, -⟩ := box2 hx5
          obtain ⟨q0, q1, -, -, -⟩ := box2 hy5
          obtain ⟨r0, r1, rf0, rf1, -⟩ := box2 hz5
          have HK := Lib.hid (fun w' (hw : Below w5.heap.size w5 w') => show ((w'.cell? ⟨w.heap.size, 0, none⟩ = some (.int .i64 s) ∧ w'.cell? ⟨w.heap.size, 1, none⟩ = some (.slice A xs.length c)) ∧ w'.cell? ⟨w.heap.size + 1, 1, none⟩ = some (.slice A2 ys.length c2)) ∧
              (w'.cell? ⟨w.heap.size + 2, 0, none⟩ = some (.int .i64 0) ∧ w'.cell? ⟨w.heap.size + 2, 1, none⟩ = some (.slice none 0 0) ∧ w'.frozen? ⟨w.heap.size + 2, 0, none⟩ = false ∧ w'.frozen? ⟨w.heap.size + 2, 1, none⟩ = false) from
            have e1 := hw.block w.heap.size (by omega)
            have e2 := hw.block (w.heap.size + 1) (by omega)
            have e3 := hw.block (w.heap.size + 2) (by omega)
            ⟨⟨⟨by rw [World.cell?_of_block (w := w5) e1]; exact p0, by rw [World.cell?_of_block (w := w5) e1]; exact p1⟩, by rw [World.cell?_of_block (w := w5) e2]; exact q1⟩, by rw [World.cell?_of_block (w := w5) e3]; exact r0, by rw [World.cell?_of_block (w := w5) e3]; exact r1, by rw [World.frozen?_of_block (w := w5) e3]; exact rf0, by rw [World.frozen?_of_block (w := w5) e3]; exact rf1⟩)
          clear r0 r1 rf0 rf1 hok hok2 hb05
          go_wp2_with fail
          go_region_law
            (first
              | (go_simp; go_at_call 50; (refine (l00Own_any _ xs B _ (hs5.drewN 1) (show B ≤ w5.heap.size by omega) (by omega)).mono ?_); rintro e w7 ⟨r7, rfl, hO7, hb7⟩; have hr7 : Below w5.heap.size w5 w7 := Below.trans (drewN_below _ _ _) hb7; obtain ⟨A7, c7, rfl, -⟩ := id (hO7.sl (Nat.le_refl _)); obtain ⟨⟨⟨p07, p17⟩, q17⟩, r0, r1, rf0, rf1⟩ := HK.out _ hr7; dsimp only)
              | (refine step_append_list rfl _ _ rfl _ _ _ _ _ _ xs ys rfl rfl hO7 (ht5.below hr7 (by omega)) hb7.size (by omega) ?_; intro v8 w8 hO8 hg8; obtain ⟨A8, c8, rfl, -⟩ := id (hO8.sl (Nat.le_refl _)); have hr8 : Below w5.heap.size w5 w8 := Below.trans hr7 (hO7.grown hg8 (Nat.le_refl _) hr7.size); obtain ⟨⟨⟨p08, p18⟩, q18⟩, s0, s1, sf0, sf1⟩ := HK.out _ hr8))
          all_goals
            have hz9 := hr8.size
            have hx9 := hr8.box hz5 (by omega)
            obtain ⟨⟨e1, e2⟩, hI9, hbl⟩ := fin_box (n := s) hx9 (show Ow w8 w5.heap.size w8.heap.size _ _ from hO8).slI (by omega) (Nat.le_refl _)
            have hlx : (xs ++ ys).length = xs.length + ys.length := by simp
            rw [hlx] at hI9 e1 e2 hbl
            clear hlx
            have HI := Lib.hid (hI9.mono (lo' := w.heap.size) (by omega) (Nat.le_refl _))
            have HR := Lib.hid ((HB.out.trans (hr8.mono (by omega))).trans (hbl.mono (by omega)))
            clear hr7 hr8 HK hb7 hI9 hbl hO7 hO8 hg8
            go_wp2_with fail
            refine bodyPost_ret (v := .tuple #[.agg #[.int .i64 s, .slice A8 (xs.length + ys.length) c8], .int .i64 0]) (by simp [results, Try.results24, go_sem, e1, e2]) rfl ?_
            exact ⟨_, by rw [HE.out], by rw [HE.out]; exact HI.out, HR.out⟩
        · have HE := Lib.hid (show jnR s xs t ys = (0, [], 5) by unfold jnR; rw [if_pos ⟨hok, hok2⟩, if_pos hst, if_neg hl40])
          clear hst
          have hl4 : ¬ (xs.length : Int) + (ys.length : Int) ≤ 40 := by omega
          go_enter Try.func24, Try.ntmps24
          go_wp2_with fail
          refine (l03Ok_is hok hs3 p0 p1).mono ?_
          rintro e w4 ⟨rfl, hb4⟩
          have hz4 := hb4.size
          have hx4 := hb4.box hx3 (by omega)
          have hy4 := hb4.box hy3 (by omega)
          have hz4' := hb4.box hz3 (by omega)
          have hs4 := hs3.below hb4 (by omega)
          have ht4 := ht3.below hb4 (by omega)
          have hb04 := hB3.trans (hb4.mono (by omega))
          clear p0 p1 hb4 hx3 hy3 hz3 hs3 ht3 hB3 hW hW2 hW3 hWs hW2s
          obtain ⟨p0, p1, -, -, -⟩ := box2 hx4
          obtain ⟨q0, q1, -, -, -⟩ := box2 hy4
          go_wp2_with fail
          refine (l03Ok_is hok2 ht4 q0 q1).mono ?_
          rintro e w5 ⟨rfl, hb5⟩
          have hz5s := hb5.size
          have hx5 := hb5.box hx4 (by omega)
          have hy5 := hb5.box hy4 (by omega)
          have hz5 := hb5.box hz4' (by omega)
          have hs5 := hs4.below hb5 (by omega)
          have ht5 := ht4.below hb5 (by omega)
          have hb05 := hb04.trans (hb5.mono (by omega))
          clear p0 p1 q0 q1 hb5 hx4 hy4 hz4' hs4 ht4 hb04
          obtain ⟨p0, p1, -, -, -⟩ := box2 hx5
          obtain ⟨q0, q1, -, -, -⟩ := box2 hy5
          have HB := Lib.hid hb05
          obtain ⟨u0, u1, uf0, uf1, hg⟩ := box2 hz5
          obtain ⟨-, e1, e2⟩ := two_sets w5 (w.heap.size + 2) (.int .i64 0) (.slice none 0 0) u0 u1
          clear hb05
          go_wp2_with fail
          refine bodyPost_ret (v := .tuple #[.agg #[.int .i64 0, .slice none 0 0], .int .i64 5]) (by simp [results, Try.results24, go_sem, e1, e2]) rfl ?_
          exact ⟨_, by rw [HE.out], by rw [HE.out]; exact (Ow.nil _ _ _).slI, HB.out.trans (set_below (by simp only; omega) (set_below (by simp only; omega) (Below.refl _ _)))⟩
      · have hsb : (s != t) = true := by simp [hst]
        have HE := Lib.hid (show jnR s xs t ys = (0, [], 6) by unfold jnR; rw [if_pos ⟨hok, hok2⟩, if_neg hst])
        clear hst
        go_enter Try.func24, Try.ntmps24
        go_wp2_with fail
        refine (l03Ok_is hok hs3 p0 p1).mono ?_
        rintro e w4 ⟨rfl, hb4⟩
        have hz4 := hb4.size
        have hx4 := hb4.box hx3 (by omega)
        have hy4 := hb4.box hy3 (by omega)
        have hz4' := hb4.box hz3 (by omega)
        have hs4 := hs3.below hb4 (by omega)
        have ht4 := ht3.below hb4 (by omega)
        have hb04 := hB3.trans (hb4.mono (by omega))
        clear p0 p1 hb4 hx3 hy3 hz3 hs3 ht3 hB3 hW hW2 hW3 hWs hW2s
        obtain ⟨p0, p1, -, -, -⟩ := box2 hx4
        obtain ⟨q0, q1, -, -, -⟩ := box2 hy4
        go_wp2_with fail
        refine (l03Ok_is hok2 ht4 q0 q1).mono ?_
        rintro e w5 ⟨rfl, hb5⟩
        have hz5s := hb5.size
        have hx5 := hb5.box hx4 (by omega)
        have hy5 := hb5.box hy4 (by omega)
        have hz5 := hb5.box hz4' (by omega)
        have hs5 := hs4.below hb5 (by omega)
        have ht5 := ht4.below hb5 (by omega)
        have hb05 := hb04.trans (hb5.mono (by omega))
        clear p0 p1 q0 q1 hb5 hx4 hy4 hz4' hs4 ht4 hb04
        obtain ⟨p0, p1, -, -, -⟩ := box2 hx5
        obtain ⟨q0, q1, -, -, -⟩ := box2 hy5
        have HB := Lib.hid hb05
        obtain ⟨u0, u1, uf0, uf1, hg⟩ := box2 hz5
        obtain ⟨-, e1, e2⟩ := two_sets w5 (w.heap.size + 2) (.int .i64 0) (.slice none 0 0) u0 u1
        clear hb05
        go_wp2_with fail
        refine bodyPost_ret (v := .tuple #[.agg #[.int .i64 0, .slice none 0 0], .int .i64 6]) (by simp [results, Try.results24, go_sem, e1, e2]) rfl ?_
        exact ⟨_, by rw [HE.out], by rw [HE.out]; exact (Ow.nil _ _ _).slI, HB.out.trans (set_below (by simp only; omega) (set_below (by simp only; omega) (Below.refl _ _)))⟩
end Go.Proofs.Ytcinnbkhnonijaa
