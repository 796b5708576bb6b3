/-
  Contracts: a pair of braids that are equal at times (l05DrawEqual).
-/
import Derived.Test.YtcinnbkhnonijaaDb4
import Derived.Test.YtcinnbkhnonijaaDb5
namespace Go.Proofs.Ytcinnbkhnonijaa
set_option maxRecDepth 10000
open Go.RowKit

/-- Four stores into two boxes side by side. -/
theorem fin_four {w : World} {R : Nat} {a b c d x0 x1 x2 x3 : Value} {t1 t2 : TypeId} (hx : w.heap[R]? = some (.cells #[a, b] t1)) (hy : w.heap[R + 1]? = some (.cells #[c, d] t2)) :
    let W := (((w.setCell ⟨R, 0, none⟩ x0).setCell ⟨R, 1, none⟩ x1).setCell ⟨R + 1, 0, none⟩ x2).setCell ⟨R + 1, 1, none⟩ x3
    (W.cell? ⟨R, 0, none⟩ = some x0 ∧ W.cell? ⟨R, 1, none⟩ = some x1 ∧ W.cell? ⟨R + 1, 0, none⟩ = some x2 ∧ W.cell? ⟨R + 1, 1, none⟩ = some x3) ∧
      (∀ j, R + 1 < j → W.heap[j]? = w.heap[j]?) ∧ W.heap.size = w.heap.size ∧ Below R w W := by
  intro W
  have h1 := heap_setCell_at (k := 1) x1 (heap_setCell_at (k := 0) x0 hx)
  have h2 : ((w.setCell ⟨R, 0, none⟩ x0).setCell ⟨R, 1, none⟩ x1).heap[R + 1]? = some (.cells #[c, d] t2) := by
    rw [Below.heap_setCell _ _ _ _ (by simp), Below.heap_setCell _ _ _ _ (by simp)]
    exact hy
  have h3 := heap_setCell_at (k := 1) x3 (heap_setCell_at (k := 0) x2 h2)
  have h4 : W.heap[R]? = some (.cells ((#[a, b].setIfInBounds 0 x0).setIfInBounds 1 x1) t1) := by
    show ((((w.setCell ⟨R, 0, none⟩ x0).setCell ⟨R, 1, none⟩ x1).setCell ⟨R + 1, 0, none⟩ x2).setCell ⟨R + 1, 1, none⟩ x3).heap[R]? = _
    rw [Below.heap_setCell _ _ _ _ (by simp), Below.heap_setCell _ _ _ _ (by simp)]
    exact h1
  obtain ⟨a1, a2, -, -, -⟩ := box2 (a := x0) (b := x1) h4
  obtain ⟨b1, b2, -, -, -⟩ := box2 (a := x2) (b := x3) h3
  have hsz : W.heap.size = w.heap.size := by simp [W, World.setCell]
  have hB : Below (R + 1) ((w.setCell ⟨R, 0, none⟩ x0).setCell ⟨R, 1, none⟩ x1) W := set_below (Nat.le_refl _) (set_below (Nat.le_refl _) (Below.refl _ _))
  have hB2 : Below R w ((w.setCell ⟨R, 0, none⟩ x0).setCell ⟨R, 1, none⟩ x1) := set_below (Nat.le_refl _) (set_below (Nat.le_refl _) (Below.refl _ _))
  refine ⟨⟨a1, a2, b1, b2⟩, fun j hj => ?_, hsz, hB2.trans (hB.mono (by omega))⟩
  show ((((w.setCell ⟨R, 0, none⟩ x0).setCell ⟨R, 1, none⟩ x1).setCell ⟨R + 1, 0, none⟩ x2).setCell ⟨R + 1, 1, none⟩ x3).heap[j]? = _
  rw [Below.heap_setCell _ _ _ _ (by simp only; omega), Below.heap_setCell _ _ _ _ (by simp only; omega), Below.heap_setCell _ _ _ _ (by simp only; omega), Below.heap_setCell _ _ _ _ (by simp only; omega)]
set_option maxHeartbeats 6400000 in
theorem l05DrawEqual_any (most : Int) (p K : Nat) (w : World) (h : Src w p K) (hK : K ≤ 999900000) (hm0 : 0 ≤ most) (hm : most ≤ 30) :
    Calls Try.prog 27 #[.pointer (some ⟨p, 0, none⟩), .int .i64 most] w fun e w' => ∃ (n : Int) (v : Value) (xs : List Int) (m : Int) (u : Value) (ys : List Int), e = .returned (.tuple #[.agg #[.int .i64 n, v], .agg #[.int .i64 m, u]]) ∧ SlI w.heap.size w'.heap.size w' v xs ∧ SlI w.heap.size w'.heap.size w' u ys ∧ xs.length ≤ 100 ∧ ys.length ≤ 100 ∧ Src w' p (K + 2000) ∧ Chg p (p + 1) w w' := by
  have hp := h.lt
  have hA := al1 w (.cells #[.int .i64 0, .slice none 0 0] 26)
  have hx := alloc_at_ w (.cells #[.int .i64 0, .slice none 0 0] 26)
  generalize hW : w.alloc (.cells #[.int .i64 0, .slice none 0 0] 26) = W at hA hx
  have hWs : W.heap.size = w.heap.size + 1 := by rw [← hW]; simp
  have hA2 := al1 W (.cells #[.int .i64 0, .slice none 0 0] 26)
  have hx2 := alloc_at_ W (.cells #[.int .i64 0, .slice none 0 0] 26)
  have hy2 : (W.alloc (.cells #[.int .i64 0, .slice none 0 0] 26)).heap[w.heap.size]? = some (.cells #[.int .i64 0, .slice none 0 0] 26) := by rw [hA2.block _ (by omega)]; exact hx
  generalize hW2 : W.alloc (.cells #[.int .i64 0, .slice none 0 0] 26) = W2 at hA2 hx2 hy2
  have hW2s : w.heap.size + 2 ≤ W2.heap.size := by rw [← hW2]; simp [hWs]
  rw [hWs] at hx2
  have hB2 : Below w.heap.size w W2 := hA.trans (hA2.mono (by omega))
  have hs2 := h.below hB2 hp
  have hc2 : Chg p (p + 1) w W2 := ⟨hB2.os, hB2.tape, hB2.output, hB2.size, fun j hj _ => hB2.block j hj⟩
  clear hA hA2 hx hB2
  go_enter Try.func27, Try.ntmps27
  go_wp2_with fail
  refine (l03Bent_any most p K W2 hs2 (by omega) hm0 hm).mono ?_
  rintro e w3 ⟨n, r, xs, rfl, hI3, hl3, -, hs3, hc3⟩
  obtain ⟨A, c, rfl, -⟩ := id hI3
  have hz3 := hc3.size
  have hx3 : w3.heap[w.heap.size + 1]? = some (.cells #[.int .i64 0, .slice none 0 0] 26) := by rw [hc3.block _ (by omega) (by omega)]; exact hx2
  have hy3 : w3.heap[w.heap.size]? = some (.cells #[.int .i64 0, .slice none 0 0] 26) := by rw [hc3.block _ (by omega) (by omega)]; exact hy2
  have hc3' := hc2.trans hc3
  clear hs2 hc2 hx2 hy2 hc3 hW hW2 hWs
  have ha4 := al1 w3 (.cells #[.int .i64 n, .slice A xs.length c] 26)
  have hb4 := alloc_at_ w3 (.cells #[.int .i64 n, .slice A xs.length c] 26)
  generalize hW4 : w3.alloc (.cells #[.int .i64 n, .slice A xs.length c] 26) = W4 at ha4 hb4
  have hI4 := hI3.below ha4 (Nat.le_refl _)
  have hs4 := hs3.below ha4 (by omega)
  have hx4 : W4.heap[w.heap.size + 1]? = some (.cells #[.int .i64 0, .slice none 0 0] 26) := by rw [ha4.block _ (by omega)]; exact hx3
  have hy4 : W4.heap[w.heap.size]? = some (.cells #[.int .i64 0, .slice none 0 0] 26) := by rw [ha4.block _ (by omega)]; exact hy3
  have hc4 := hc3'.then_below (ha4.mono (by omega))
  have hz4 := ha4.size
  clear ha4 hx3 hy3 hc3' hI3 hs3
  obtain ⟨c0, c1, -, -, hg4⟩ := box2 hb4
  go_wp2_with fail
  cases hok : okBr n xs
  · refine (l03Ok_is hok (hI4.sl hz4) c0 c1).mono ?_
    rintro e w5 ⟨rfl, hb5⟩
    have hz5 := hb5.size
    have hxX : w5.heap[w.heap.size + 1]? = some (.cells #[.int .i64 0, .slice none 0 0] 26) := by rw [hb5.block _ (by omega)]; exact hx4
    have hyX : w5.heap[w.heap.size]? = some (.cells #[.int .i64 0, .slice none 0 0] 26) := by rw [hb5.block _ (by omega)]; exact hy4
    have hbX : w5.heap[w3.heap.size]? = some (.cells #[.int .i64 n, .slice A xs.length c] 26) := by rw [hb5.block _ (by omega)]; exact hb4
    have hIX := hI4.below hb5 hz4
    have hsX := hs4.below hb5 (by omega)
    have hcX := hc4.then_below (hb5.mono (by omega))
    clear c0 c1 hb5 hI4 hs4 hx4 hy4 hc4 hb4 hW4
    obtain ⟨q0, q1, -, -, hgl⟩ := box2 hbX
    obtain ⟨r0, r1, rf0, rf1, -⟩ := box2 hyX
    obtain ⟨u0, u1, uf0, uf1, -⟩ := box2 hxX
    have hsd : Src w5.drew p _ := hsX.below (below_drewN (Below.refl w5.heap.size w5) 1) hsX.lt
    have hzX := hcX.size
    have HK := Lib.hid (fun w' (hw : Chg p (p + 1) w5 w') => show ((w'.cell? ⟨w3.heap.size, 0, none⟩ = some (.int .i64 n) ∧ w'.cell? ⟨w3.heap.size, 1, none⟩ = some (.slice A xs.length c)) ∧
        (w'.cell? ⟨w.heap.size, 0, none⟩ = some (.int .i64 0) ∧ w'.cell? ⟨w.heap.size, 1, none⟩ = some (.slice none 0 0) ∧ w'.frozen? ⟨w.heap.size, 0, none⟩ = false ∧ w'.frozen? ⟨w.heap.size, 1, none⟩ = false)) ∧
        (w'.cell? ⟨w.heap.size + 1, 0, none⟩ = some (.int .i64 0) ∧ w'.cell? ⟨w.heap.size + 1, 1, none⟩ = some (.slice none 0 0) ∧ w'.frozen? ⟨w.heap.size + 1, 0, none⟩ = false ∧ w'.frozen? ⟨w.heap.size + 1, 1, none⟩ = false) from
      have e1 := hw.block w3.heap.size (by omega) (by omega)
      have e2 := hw.block w.heap.size (by omega) (by omega)
      have e3 := hw.block (w.heap.size + 1) (by omega) (by omega)
      ⟨⟨⟨by rw [World.cell?_of_block (w := w5) e1]; exact q0, by rw [World.cell?_of_block (w := w5) e1]; exact q1⟩, by rw [World.cell?_of_block (w := w5) e2]; exact r0, by rw [World.cell?_of_block (w := w5) e2]; exact r1, by rw [World.frozen?_of_block (w := w5) e2]; exact rf0, by rw [World.frozen?_of_block (w := w5) e2]; exact rf1⟩,
        by rw [World.cell?_of_block (w := w5) e3]; exact u0, by rw [World.cell?_of_block (w := w5) e3]; exact u1, by rw [World.frozen?_of_block (w := w5) e3]; exact uf0, by rw [World.frozen?_of_block (w := w5) e3]; exact uf1⟩)
    clear r0 r1 rf0 rf1 u0 u1 uf0 uf1
    go_wp2_with fail
    go_region_law
      (go_simp; go_at_call 39; (refine (l03Bent_any most p _ _ hsd (by omega) hm0 hm).mono ?_); rintro e w7 ⟨m, v7, ys, rfl, hI7, hl7, -, hs7, hc7⟩; obtain ⟨A7, c7, rfl, -⟩ := id hI7; have hr7 : Chg p (p + 1) w5 w7 := chg_fresh (below_drewN (Below.refl w5.heap.size w5) 1) hc7; obtain ⟨⟨⟨q07, q17⟩, r0, r1, rf0, rf1⟩, u0, u1, uf0, uf1⟩ := HK.out _ hr7; dsimp only)
    all_goals
      have hz7 := hr7.size
      have hJ7 := hIX.keep (w' := w7) fun k h1 h2 => hr7.block k (by omega) (by omega)
      have hI7 : SlI w5.heap.size w7.heap.size w7 (.slice A7 ys.length c7) ys := hI7
      have hx7 : w7.heap[w.heap.size + 1]? = some (.cells #[.int .i64 0, .slice none 0 0] 26) := by rw [hr7.block _ (by omega) (by omega)]; exact hxX
      have hy7 : w7.heap[w.heap.size]? = some (.cells #[.int .i64 0, .slice none 0 0] 26) := by rw [hr7.block _ (by omega) (by omega)]; exact hyX
      obtain ⟨⟨e1, e2, e3, e4⟩, hkp, hszf, hbl⟩ := fin_four (x0 := .int .i64 n) (x1 := .slice A xs.length c) (x2 := .int .i64 m) (x3 := .slice A7 ys.length c7) hy7 hx7
      have F1 := Lib.hid ((hJ7.keep fun j h1 _ => hkp j (by omega)).mono (lo' := w.heap.size) (by omega) (Nat.le_trans (show w3.heap.size ≤ w7.heap.size by omega) (Nat.le_of_eq hszf.symm)))
      have F2 := Lib.hid ((hI7.keep fun j h1 _ => hkp j (by omega)).mono (lo' := w.heap.size) (by omega) (Nat.le_of_eq hszf.symm))
      have F3 := Lib.hid (hs7.below hbl hp)
      have F4 := Lib.hid ((hcX.trans hr7).then_below hbl)
      clear hkp hszf hbl HK hsd hc7 hr7 hI7 hJ7 hs7
      go_wp2_with fail
      refine bodyPost_ret (v := .tuple #[.agg #[.int .i64 n, .slice A xs.length c], .agg #[.int .i64 m, .slice A7 ys.length c7]]) (by simp [results, Try.results27, go_sem, e1, e2, e3, e4]) rfl ?_
      exact ⟨n, _, xs, m, _, ys, rfl, F1.out, F2.out, by omega, by omega, F3.out.mono (by omega), F4.out⟩
  · refine (l03Ok_is hok (hI4.sl hz4) c0 c1).mono ?_
    rintro e w5 ⟨rfl, hb5⟩
    have hz5 := hb5.size
    have hxX : w5.heap[w.heap.size + 1]? = some (.cells #[.int .i64 0, .slice none 0 0] 26) := by rw [hb5.block _ (by omega)]; exact hx4
    have hyX : w5.heap[w.heap.size]? = some (.cells #[.int .i64 0, .slice none 0 0] 26) := by rw [hb5.block _ (by omega)]; exact hy4
    have hbX : w5.heap[w3.heap.size]? = some (.cells #[.int .i64 n, .slice A xs.length c] 26) := by rw [hb5.block _ (by omega)]; exact hb4
    have hIX := hI4.below hb5 hz4
    have hsX := hs4.below hb5 (by omega)
    have hcX := hc4.then_below (hb5.mono (by omega))
    clear c0 c1 hb5 hI4 hs4 hx4 hy4 hc4 hb4 hW4
    by_cases hn2 : n < 2
    · obtain ⟨p0, p1, -, -, -⟩ := box2 hbX
      obtain ⟨q0, q1, -, -, hgl⟩ := box2 hbX
      obtain ⟨r0, r1, rf0, rf1, -⟩ := box2 hyX
      obtain ⟨u0, u1, uf0, uf1, -⟩ := box2 hxX
      have hsd : Src w5.drew p _ := hsX.below (below_drewN (Below.refl w5.heap.size w5) 1) hsX.lt
      have hzX := hcX.size
      have HK := Lib.hid (fun w' (hw : Chg p (p + 1) w5 w') => show ((w'.cell? ⟨w3.heap.size, 0, none⟩ = some (.int .i64 n) ∧ w'.cell? ⟨w3.heap.size, 1, none⟩ = some (.slice A xs.length c)) ∧
          (w'.cell? ⟨w.heap.size, 0, none⟩ = some (.int .i64 0) ∧ w'.cell? ⟨w.heap.size, 1, none⟩ = some (.slice none 0 0) ∧ w'.frozen? ⟨w.heap.size, 0, none⟩ = false ∧ w'.frozen? ⟨w.heap.size, 1, none⟩ = false)) ∧
          (w'.cell? ⟨w.heap.size + 1, 0, none⟩ = some (.int .i64 0) ∧ w'.cell? ⟨w.heap.size + 1, 1, none⟩ = some (.slice none 0 0) ∧ w'.frozen? ⟨w.heap.size + 1, 0, none⟩ = false ∧ w'.frozen? ⟨w.heap.size + 1, 1, none⟩ = false) from
        have e1 := hw.block w3.heap.size (by omega) (by omega)
        have e2 := hw.block w.heap.size (by omega) (by omega)
        have e3 := hw.block (w.heap.size + 1) (by omega) (by omega)
        ⟨⟨⟨by rw [World.cell?_of_block (w := w5) e1]; exact q0, by rw [World.cell?_of_block (w := w5) e1]; exact q1⟩, by rw [World.cell?_of_block (w := w5) e2]; exact r0, by rw [World.cell?_of_block (w := w5) e2]; exact r1, by rw [World.frozen?_of_block (w := w5) e2]; exact rf0, by rw [World.frozen?_of_block (w := w5) e2]; exact rf1⟩,
          by rw [World.cell?_of_block (w := w5) e3]; exact u0, by rw [World.cell?_of_block (w := w5) e3]; exact u1, by rw [World.frozen?_of_block (w := w5) e3]; exact uf0, by rw [World.frozen?_of_block (w := w5) e3]; exact uf1⟩)
      clear r0 r1 rf0 rf1 u0 u1 uf0 uf1
      go_wp2_with fail
      go_region_law
        (go_simp; go_at_call 39; (refine (l03Bent_any most p _ _ hsd (by omega) hm0 hm).mono ?_); rintro e w7 ⟨m, v7, ys, rfl, hI7, hl7, -, hs7, hc7⟩; obtain ⟨A7, c7, rfl, -⟩ := id hI7; have hr7 : Chg p (p + 1) w5 w7 := chg_fresh (below_drewN (Below.refl w5.heap.size w5) 1) hc7; obtain ⟨⟨⟨q07, q17⟩, r0, r1, rf0, rf1⟩, u0, u1, uf0, uf1⟩ := HK.out _ hr7; dsimp only)
      all_goals
        have hz7 := hr7.size
        have hJ7 := hIX.keep (w' := w7) fun k h1 h2 => hr7.block k (by omega) (by omega)
        have hI7 : SlI w5.heap.size w7.heap.size w7 (.slice A7 ys.length c7) ys := hI7
        have hx7 : w7.heap[w.heap.size + 1]? = some (.cells #[.int .i64 0, .slice none 0 0] 26) := by rw [hr7.block _ (by omega) (by omega)]; exact hxX
        have hy7 : w7.heap[w.heap.size]? = some (.cells #[.int .i64 0, .slice none 0 0] 26) := by rw [hr7.block _ (by omega) (by omega)]; exact hyX
        obtain ⟨⟨e1, e2, e3, e4⟩, hkp, hszf, hbl⟩ := fin_four (x0 := .int .i64 n) (x1 := .slice A xs.length c) (x2 := .int .i64 m) (x3 := .slice A7 ys.length c7) hy7 hx7
        have F1 := Lib.hid ((hJ7.keep fun j h1 _ => hkp j (by omega)).mono (lo' := w.heap.size) (by omega) (Nat.le_trans (show w3.heap.size ≤ w7.heap.size by omega) (Nat.le_of_eq hszf.symm)))
        have F2 := Lib.hid ((hI7.keep fun j h1 _ => hkp j (by omega)).mono (lo' := w.heap.size) (by omega) (Nat.le_of_eq hszf.symm))
        have F3 := Lib.hid (hs7.below hbl hp)
        have F4 := Lib.hid ((hcX.trans hr7).then_below hbl)
        clear hkp hszf hbl HK hsd hc7 hr7 hI7 hJ7 hs7
        go_wp2_with fail
        refine bodyPost_ret (v := .tuple #[.agg #[.int .i64 n, .slice A xs.length c], .agg #[.int .i64 m, .slice A7 ys.length c7]]) (by simp [results, Try.results27, go_sem, e1, e2, e3, e4]) rfl ?_
        exact ⟨n, _, xs, m, _, ys, rfl, F1.out, F2.out, by omega, by omega, F3.out.mono (by omega), F4.out⟩
    · obtain ⟨p0, p1, -, -, -⟩ := box2 hbX
      go_wp2_with fail
      refine (one_any 4 p _ _ hsX (by omega)).mono ?_
      rintro e w6 ⟨b6, rfl, hs6, hc6⟩
      have hz6 := hc6.size
      have hx6 : w6.heap[w.heap.size + 1]? = some (.cells #[.int .i64 0, .slice none 0 0] 26) := by rw [hc6.block _ (by omega) (by omega)]; exact hxX
      have hy6 : w6.heap[w.heap.size]? = some (.cells #[.int .i64 0, .slice none 0 0] 26) := by rw [hc6.block _ (by omega) (by omega)]; exact hyX
      have hb6 : w6.heap[w3.heap.size]? = some (.cells #[.int .i64 n, .slice A xs.length c] 26) := by rw [hc6.block _ (by omega) (by omega)]; exact hbX
      have hI6 := hIX.keep (w' := w6) fun k h1 h2 => hc6.block k (by omega) (by omega)
      have hc6 := hcX.trans hc6
      clear p0 p1 hxX hyX hbX hIX hcX hsX
      obtain ⟨hxX, hyX, hbX, hIX, hcX, hsX⟩ := (⟨hx6, hy6, hb6, hI6, hc6, hs6⟩ : _ ∧ _ ∧ _ ∧ _ ∧ _ ∧ _)
      clear hx6 hy6 hb6 hI6 hc6 hs6
      cases b6
      · obtain ⟨q0, q1, -, -, hgl⟩ := box2 hbX
        have hzX := hcX.size
        obtain ⟨ok1, ok2, ok3, -⟩ := okBr_parts hok
        go_wp2_with fail
        refine (l00Own_any _ xs w3.heap.size w6 (hIX.sl (Nat.le_refl _)) (by omega) (by omega)).mono ?_
        rintro e w7 ⟨r7, rfl, hO7, hb7⟩
        have hz7 := hb7.size
        have hx7 : w7.heap[w.heap.size + 1]? = some (.cells #[.int .i64 0, .slice none 0 0] 26) := by rw [hb7.block _ (by omega)]; exact hxX
        have hy7 : w7.heap[w.heap.size]? = some (.cells #[.int .i64 0, .slice none 0 0] 26) := by rw [hb7.block _ (by omega)]; exact hyX
        have hb7x : w7.heap[w3.heap.size]? = some (.cells #[.int .i64 n, .slice A xs.length c] 26) := by rw [hb7.block _ (by omega)]; exact hbX
        have hI7 := hIX.below hb7 (by omega)
        have hs7 := hsX.below hb7 hsX.lt
        have hc7 := hcX.then_below (hb7.mono (by omega))
        clear hxX hyX hbX hIX hsX hcX hb7 q0 q1
        go_wp2_with fail
        refine (pick_any 3 p _ _ hs7 (by omega)).mono ?_
        rintro e w8 ⟨k0, rfl, k1, k2, hs8, hc8⟩
        obtain ⟨k0, rfl⟩ : ∃ k : Nat, k0 = k := ⟨k0.toNat, by omega⟩
        have hk9 : k0 ≤ 2 := by omega
        have hz8 := hc8.size
        have hx8 : w8.heap[w.heap.size + 1]? = some (.cells #[.int .i64 0, .slice none 0 0] 26) := by rw [hc8.block _ (by omega) (by omega)]; exact hx7
        have hy8 : w8.heap[w.heap.size]? = some (.cells #[.int .i64 0, .slice none 0 0] 26) := by rw [hc8.block _ (by omega) (by omega)]; exact hy7
        have hb8x : w8.heap[w3.heap.size]? = some (.cells #[.int .i64 n, .slice A xs.length c] 26) := by rw [hc8.block _ (by omega) (by omega)]; exact hb7x
        have hI8 := hI7.keep (w' := w8) fun k h1 h2 => hc8.block k (by omega) (by omega)
        have hO8 := (hc8.ow_off hO7 (by omega) (Nat.le_refl _)).mono (Nat.le_refl _) hz8
        have hcc8 := hc7.trans hc8
        clear hx7 hy7 hb7x hI7 hs7 hc7 hO7 hc8 k1 k2
        go_wp2_with fail
        go_loopw [7, 8] (fun o i wr => ∃ (k : Nat) (ys : List Int), i = .int .i64 k ∧ k ≤ 2 ∧ Ow wr w6.heap.size wr.heap.size o ys ∧ ys.length + 6 * k ≤ 60 ∧ Src wr p (K + 1000 + 20 * (2 - k)) ∧ Chg p (p + 1) w8 wr) (fun _ i _ => (intOf i).toNat)
        case atStart => exact ⟨k0, xs, rfl, hk9, hO8, by omega, hs8.mono (by omega), Chg.refl _ _ _⟩
        case round =>
          obtain ⟨k, ys, rfl, hk2, hO9, hl9, hs9, hc9⟩ := hrel
          have hz9 := hc9.size
          have hb9 : wr.heap[w3.heap.size]? = some (.cells #[.int .i64 n, .slice A xs.length c] 26) := by rw [hc9.block _ (by omega) (by omega)]; exact hb8x
          obtain ⟨q0, q1, -, -, -⟩ := box2 hb9
          by_cases hk0 : 0 < k
          · have hkI : 0 < (k : Int) := by omega
            obtain ⟨A9, c9, rfl, hcl, hcm, -⟩ := id (hO9.sl (Nat.le_refl _))
            go_wp2_with fail
            refine (pick_any ((ys.length : Int) + 1) p _ _ hs9 (by omega)).mono ?_
            rintro e w10 ⟨x, rfl, x0, x1, hs10, hc10⟩
            obtain ⟨x, rfl⟩ : ∃ t : Nat, x = t := ⟨x.toNat, by omega⟩
            have hxl : x ≤ ys.length := by omega
            have hz10 := hc10.size
            have hO10 := (hc10.ow_off hO9 (by omega) (Nat.le_refl _))
            have hb10 : w10.heap[w3.heap.size]? = some (.cells #[.int .i64 n, .slice A xs.length c] 26) := by rw [hc10.block _ (by omega) (by omega)]; exact hb9
            clear q0 q1 hb9 hO9 hs9 x1
            obtain ⟨q0, q1, -, -, -⟩ := box2 hb10
            go_wp2_with fail
            refine (l05Relation_any n _ ys w6.heap.size wr.heap.size x p _ _ hs10 (by omega) (by omega) ok2 hO10 (by omega) hz10 hxl (by omega)).mono ?_
            rintro e w11 ⟨r, zs, rfl, hO11, hl11, hs11, hc11⟩
            have hc12 := (hc9.trans hc10).trans hc11
            clear q0 q1 hO10 hs10 hc10 hc9
            go_wp2_with fail
            go_roundw
            case rel => exact ⟨k - 1, zs, by go_num, by omega, hO11.mono (by omega) (Nat.le_refl _), by omega, hs11.mono (by omega), hc12⟩
            case measure => simp [intOf]; omega
          · obtain rfl : k = 0 := by omega
            have hx9 : wr.heap[w.heap.size + 1]? = some (.cells #[.int .i64 0, .slice none 0 0] 26) := by rw [hc9.block _ (by omega) (by omega)]; exact hx8
            have hy9 : wr.heap[w.heap.size]? = some (.cells #[.int .i64 0, .slice none 0 0] 26) := by rw [hc9.block _ (by omega) (by omega)]; exact hy8
            have hI9 := hI8.keep (w' := wr) fun k h1 h2 => hc9.block k (by omega) (by omega)
            obtain ⟨A9, c9, rfl, hcl, hcm, -⟩ := id (hO9.sl (Nat.le_refl _))
            have hcc9 := hcc8.trans hc9
            obtain ⟨r0, r1, rf0, rf1, -⟩ := box2 hy9
            obtain ⟨u0, u1, uf0, uf1, -⟩ := box2 hx9
            obtain ⟨⟨e1, e2, e3, e4⟩, hkp, hszf, hbl⟩ := fin_four (x0 := .int .i64 n) (x1 := .slice A xs.length c) (x2 := .int .i64 n) (x3 := .slice A9 ys.length c9) hy9 hx9
            have F1 := Lib.hid ((hI9.keep fun j h1 _ => hkp j (by omega)).mono (lo' := w.heap.size) (by omega) (Nat.le_trans (show w3.heap.size ≤ wr.heap.size by omega) (Nat.le_of_eq hszf.symm)))
            have F2 := Lib.hid ((hO9.slI.keep fun j h1 _ => hkp j (by omega)).mono (lo' := w.heap.size) (by omega) (Nat.le_of_eq hszf.symm))
            have F3 := Lib.hid (hs9.below hbl (by omega))
            have F4 := Lib.hid (hcc9.then_below (hbl.mono (by omega)))
            clear hkp hszf hbl hI9 hs9 hx9 hy9 hb9 hO9 hcc9 hc9 hO8 hs8 hI8 hx8 hy8 hb8x hcc8
            go_wp2_with fail
            go_region_law (fail)
            all_goals
              go_wp2_with fail
              refine bodyPost_ret (v := .tuple #[.agg #[.int .i64 n, .slice A xs.length c], .agg #[.int .i64 n, .slice A9 ys.length c9]]) (by simp [results, Try.results27, go_sem, e1, e2, e3, e4]) rfl ?_
              exact ⟨n, _, xs, n, _, ys, rfl, F1.out, F2.out, by omega, by omega, F3.out.mono (by omega), by first | exact F4.out | exact chg_drew F4.out⟩
      · skip
        obtain ⟨q0, q1, -, -, hgl⟩ := box2 hbX
        obtain ⟨r0, r1, rf0, rf1, -⟩ := box2 hyX
        obtain ⟨u0, u1, uf0, uf1, -⟩ := box2 hxX
        have hsd : Src w6.drew p _ := hsX.below (below_drewN (Below.refl w6.heap.size w6) 1) hsX.lt
        have hzX := hcX.size
        have HK := Lib.hid (fun w' (hw : Chg p (p + 1) w6 w') => show ((w'.cell? ⟨w3.heap.size, 0, none⟩ = some (.int .i64 n) ∧ w'.cell? ⟨w3.heap.size, 1, none⟩ = some (.slice A xs.length c)) ∧
            (w'.cell? ⟨w.heap.size, 0, none⟩ = some (.int .i64 0) ∧ w'.cell? ⟨w.heap.size, 1, none⟩ = some (.slice none 0 0) ∧ w'.frozen? ⟨w.heap.size, 0, none⟩ = false ∧ w'.frozen? ⟨w.heap.size, 1, none⟩ = false)) ∧
            (w'.cell? ⟨w.heap.size + 1, 0, none⟩ = some (.int .i64 0) ∧ w'.cell? ⟨w.heap.size + 1, 1, none⟩ = some (.slice none 0 0) ∧ w'.frozen? ⟨w.heap.size + 1, 0, none⟩ = false ∧ w'.frozen? ⟨w.heap.size + 1, 1, none⟩ = false) from
          have e1 := hw.block w3.heap.size (by omega) (by omega)
          have e2 := hw.block w.heap.size (by omega) (by omega)
          have e3 := hw.block (w.heap.size + 1) (by omega) (by omega)
          ⟨⟨⟨by rw [World.cell?_of_block (w := w6) e1]; exact q0, by rw [World.cell?_of_block (w := w6) e1]; exact q1⟩, by rw [World.cell?_of_block (w := w6) e2]; exact r0, by rw [World.cell?_of_block (w := w6) e2]; exact r1, by rw [World.frozen?_of_block (w := w6) e2]; exact rf0, by rw [World.frozen?_of_block (w := w6) e2]; exact rf1⟩,
            by rw [World.cell?_of_block (w := w6) e3]; exact u0, by rw [World.cell?_of_block (w := w6) e3]; exact u1, by rw [World.frozen?_of_block (w := w6) e3]; exact uf0, by rw [World.frozen?_of_block (w := w6) e3]; exact uf1⟩)
        clear r0 r1 rf0 rf1 u0 u1 uf0 uf1
        go_wp2_with fail
        go_region_law
          (go_simp; go_at_call 39; (refine (l03Bent_any most p _ _ hsd (by omega) hm0 hm).mono ?_); rintro e w7 ⟨m, v7, ys, rfl, hI7, hl7, -, hs7, hc7⟩; obtain ⟨A7, c7, rfl, -⟩ := id hI7; have hr7 : Chg p (p + 1) w6 w7 := chg_fresh (below_drewN (Below.refl w6.heap.size w6) 1) hc7; obtain ⟨⟨⟨q07, q17⟩, r0, r1, rf0, rf1⟩, u0, u1, uf0, uf1⟩ := HK.out _ hr7; dsimp only)
        all_goals
          have hz7 := hr7.size
          have hJ7 := hIX.keep (w' := w7) fun k h1 h2 => hr7.block k (by omega) (by omega)
          have hI7 : SlI w6.heap.size w7.heap.size w7 (.slice A7 ys.length c7) ys := hI7
          have hx7 : w7.heap[w.heap.size + 1]? = some (.cells #[.int .i64 0, .slice none 0 0] 26) := by rw [hr7.block _ (by omega) (by omega)]; exact hxX
          have hy7 : w7.heap[w.heap.size]? = some (.cells #[.int .i64 0, .slice none 0 0] 26) := by rw [hr7.block _ (by omega) (by omega)]; exact hyX
          obtain ⟨⟨e1, e2, e3, e4⟩, hkp, hszf, hbl⟩ := fin_four (x0 := .int .i64 n) (x1 := .slice A xs.length c) (x2 := .int .i64 m) (x3 := .slice A7 ys.length c7) hy7 hx7
          have F1 := Lib.hid ((hJ7.keep fun j h1 _ => hkp j (by omega)).mono (lo' := w.heap.size) (by omega) (Nat.le_trans (show w3.heap.size ≤ w7.heap.size by omega) (Nat.le_of_eq hszf.symm)))
          have F2 := Lib.hid ((hI7.keep fun j h1 _ => hkp j (by omega)).mono (lo' := w.heap.size) (by omega) (Nat.le_of_eq hszf.symm))
          have F3 := Lib.hid (hs7.below hbl hp)
          have F4 := Lib.hid ((hcX.trans hr7).then_below hbl)
          clear hkp hszf hbl HK hsd hc7 hr7 hI7 hJ7 hs7
          go_wp2_with fail
          refine bodyPost_ret (v := .tuple #[.agg #[.int .i64 n, .slice A xs.length c], .agg #[.int .i64 m, .slice A7 ys.length c7]]) (by simp [results, Try.results27, go_sem, e1, e2, e3, e4]) rfl ?_
          exact ⟨n, _, xs, m, _, ys, rfl, F1.out, F2.out, by omega, by omega, F3.out.mono (by omega), F4.out⟩
end Go.Proofs.Ytcinnbkhnonijaa
