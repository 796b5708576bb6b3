/-
  Contracts: a drawn braid that is bent at times (l03Bent).
-/
import Derived.Test.YtcoocjdkppdlmaaDb
import Derived.Deep.LoopGhost
namespace Go.Proofs.Ytcoocjdkppdlmaa
set_option maxRecDepth 10000
open Go.RowKit
set_option maxHeartbeats 3200000 in
theorem l03Bent_any (most : Int) (p K : Nat) (w : World) (h : Src w p K) (hK : K ≤ 999970000) (hm0 : 0 ≤ most) (hm : most ≤ 30) :
    Calls Try.prog 80 #[.pointer (some ⟨p, 0, none⟩), .int .i64 most] w fun e w' => ∃ (n : Int) (r : Value) (xs : List Int), e = .returned (.agg #[.int .i64 n, r]) ∧ SlI w.heap.size w'.heap.size w' r xs ∧ xs.length ≤ 60 ∧ (-1 ≤ n ∧ n ≤ 13) ∧ Src w' p (K + 700) ∧ Chg p (p + 1) w w' := by
  have hp := h.lt
  have hA := al1 w (.cells #[.int .i64 0, .slice none 0 0] 41)
  have hx := alloc_at_ w (.cells #[.int .i64 0, .slice none 0 0] 41)
  generalize hW : w.alloc (.cells #[.int .i64 0, .slice none 0 0] 41) = W at hA hx
  have hWs : W.heap.size = w.heap.size + 1 := by rw [← hW]; simp
  have hs0 := h.below hA hp
  go_enter Try.func80, Try.ntmps80
  go_wp2_with fail
  refine (l03Draw_any most p K _ hs0 (by omega) hm0 (by omega)).mono ?_
  rintro e w1 ⟨n, r1, xs, rfl, hO1, hl0, hl1, ⟨n0, n1⟩, hs1, hc1⟩
  have hl1 : xs.length ≤ 30 := by omega
  obtain ⟨A1, c1, rfl, -⟩ := id (hO1.sl (Nat.le_refl _))
  have hx1 : w1.heap[w.heap.size]? = some (.cells #[.int .i64 0, .slice none 0 0] 41) := by rw [hc1.block _ (by omega) (by omega)]; exact hx
  have hz1 := hc1.size
  have hc1 := chg_fresh hA hc1
  clear hs0 hA hx
  -- the box of b
  have ha2 := al1 w1 (.cells #[.int .i64 n, .slice A1 xs.length c1] 41)
  have hb2 := alloc_at_ w1 (.cells #[.int .i64 n, .slice A1 xs.length c1] 41)
  have hO2 := hO1.below ha2 (Nat.le_refl _)
  have hs2 := hs1.below ha2 (by omega)
  have hx2 : (w1.alloc (.cells #[.int .i64 n, .slice A1 xs.length c1] 41)).heap[w.heap.size]? = some (.cells #[.int .i64 0, .slice none 0 0] 41) := by rw [ha2.block _ (by omega)]; exact hx1
  have hc2 := hc1.then_below (ha2.mono (by omega))
  generalize hW2 : w1.alloc (.cells #[.int .i64 n, .slice A1 xs.length c1] 41) = W2 at ha2 hb2 hO2 hs2 hx2 hc2
  have hW2s : W2.heap.size = w1.heap.size + 1 := by rw [← hW2]; simp
  go_wp2_with fail
  refine (pick_any 14 p _ _ hs2 (by omega)).mono ?_
  rintro e w3 ⟨k, rfl, k0, k1, hs3, hc3⟩
  have hz2 := hc2.size
  have hz3 := hc3.size
  have hO3 : Ow w3 (w.heap.size + 1) w1.heap.size (.slice A1 xs.length c1) xs := ((hc3.ow_off hO2 (by omega) (by omega)).mono (by omega) (Nat.le_refl _))
  have hx3 : w3.heap[w.heap.size]? = some (.cells #[.int .i64 0, .slice none 0 0] 41) := by rw [hc3.block _ (by omega) (by omega)]; exact hx2
  have hb3 : w3.heap[w1.heap.size]? = some (.cells #[.int .i64 n, .slice A1 xs.length c1] 41) := by rw [hc3.block _ (by omega) (by omega)]; exact hb2
  have hc3 := hc2.trans hc3
  clear hs2 hc2 hO2 k1 hx2 hb2 ha2 hW2 hx1 hO1 hs1 hc1
  obtain ⟨q0, q1, f0, f1, hg⟩ := box2 hb3
  obtain ⟨r0, r1, rf0, rf1, -⟩ := box2 hx3
  by_cases hk0 : k = 0
  · subst hk0
    have hO4 := ow_lits w3 [-1, 12, 13, 1] (by simp)
    have ha4 := al1 w3 (.cells (vals [-1, 12, 13, 1]).toArray 2)
    have hs4 := hs3.below ha4 (by omega)
    go_wp2_with fail
    refine (among_ow hs4 (by omega) hO4 (by simp) (by omega) (Nat.le_refl _)).mono ?_
    rintro e w5 ⟨y, rfl, hy, hs5, hc5⟩
    have hy2 : -1 ≤ y ∧ y ≤ 13 := by simp at hy; omega
    have hc5 := chg_fresh ha4 hc5
    have hz5 := hc5.size
    have hO5 := hc5.ow_off hO3 (by omega) (by omega)
    have hx5 : w5.heap[w.heap.size]? = some (.cells #[.int .i64 0, .slice none 0 0] 41) := by rw [hc5.block _ (by omega) (by omega)]; exact hx3
    have hb5 : w5.heap[w1.heap.size]? = some (.cells #[.int .i64 n, .slice A1 xs.length c1] 41) := by rw [hc5.block _ (by omega) (by omega)]; exact hb3
    have hc6 := hc3.trans hc5
    clear hO4 ha4 hs4 hO3 hs3 hc5 hy q0 q1 f0 f1 r0 r1 rf0 rf1 hx3 hb3 hc3
    obtain ⟨-, -, rf0, rf1, -⟩ := box2 hx5
    have hb6 := heap_setCell_at (k := 0) (.int .i64 y) hb5
    have hx6 : (w5.setCell ⟨w1.heap.size, 0, none⟩ (.int .i64 y)).heap[w.heap.size]? = some (.cells #[.int .i64 0, .slice none 0 0] 41) := by rw [Below.heap_setCell _ _ _ _ (by simp only; omega)]; exact hx5
    obtain ⟨q0, q1, f0, f1, hg⟩ := box2 hb5
    obtain ⟨s0, s1, -, -, -⟩ := box2 (a := .int .i64 y) (b := .slice A1 xs.length c1) hb6
    have hI6 : SlI (w.heap.size + 1) w1.heap.size (w5.setCell ⟨w1.heap.size, 0, none⟩ (.int .i64 y)) (.slice A1 xs.length c1) xs := hO5.slI.keep fun j h1 h2 => Below.heap_setCell _ _ _ _ (by simp only; omega)
    obtain ⟨⟨e1, e2⟩, hI7, hbl⟩ := fin_box (n := y) hx6 hI6 (by omega) (by simp [World.setCell]; omega)
    obtain ⟨r0, r1, -, -, -⟩ := box2 hx6
    obtain ⟨z0, -, -⟩ := two_sets _ w.heap.size (.int .i64 y) (.slice A1 xs.length c1) r0 r1
    have hbs : Below w.heap.size w5 (w5.setCell ⟨w1.heap.size, 0, none⟩ (.int .i64 y)) := set_below (by simp only; omega) (Below.refl _ _)
    have hI7' := hI7
    have hbt := hbs.trans hbl
    clear hb6 hx6 hI6 hI7 hbl hbs
    go_wp2_with fail
    refine bodyPost_ret (v := .agg #[.int .i64 y, .slice A1 xs.length c1]) (by simp [results, Try.results80, go_sem, e1, e2]) rfl ?_
    exact ⟨y, _, xs, rfl, hI7'.mono (by omega) (Nat.le_refl _), by omega, hy2, (hs5.below hbt hp).mono (by omega), hc6.then_below hbt⟩
  · have hk0b : (k == 0) = false := by simp [hk0]
    by_cases hk1 : k = 1
    · subst hk1
      have hO4 : Ow (w3.alloc (.cells (vals [0, n, IntKind.i64.wrap (-n), -9223372036854775808]).toArray 2)).drew w3.heap.size (w3.alloc (.cells (vals [0, n, IntKind.i64.wrap (-n), -9223372036854775808]).toArray 2)).heap.size (.slice (some ⟨w3.heap.size, 0, none⟩) 4 4) [0, n, IntKind.i64.wrap (-n), -9223372036854775808] := ow_lits w3 [0, n, IntKind.i64.wrap (-n), -9223372036854775808] (by simp)
      have ha4 : Below w3.heap.size w3 (w3.alloc (.cells (vals [0, n, IntKind.i64.wrap (-n), -9223372036854775808]).toArray 2)).drew := below_drewN (al1 w3 (.cells (vals [0, n, IntKind.i64.wrap (-n), -9223372036854775808]).toArray 2)) 1
      have hs4 : Src (w3.alloc (.cells (vals [0, n, IntKind.i64.wrap (-n), -9223372036854775808]).toArray 2)).drew p _ := hs3.below ha4 (by omega)
      have HK := Lib.hid (fun w' (hw : Chg p (p + 1) w3 w') => show (w'.cell? ⟨w1.heap.size, 0, none⟩ = some (.int .i64 n) ∧ w'.frozen? ⟨w1.heap.size, 1, none⟩ = false) ∧ w'.cell? ⟨w1.heap.size, 1, none⟩ = some (.slice A1 xs.length c1) from
        ⟨⟨by rw [World.cell?_of_block (w := w3) (hw.block w1.heap.size (by omega) (by omega))]; exact q0, by rw [World.frozen?_of_block (w := w3) (hw.block w1.heap.size (by omega) (by omega))]; exact f1⟩, by rw [World.cell?_of_block (w := w3) (hw.block w1.heap.size (by omega) (by omega))]; exact q1⟩)
      go_wp2_with fail
      go_region_law
        (first
          | (go_simp; go_at_call 94; (refine (among_ow hs4 (by omega) hO4 (by simp) (by omega) (Nat.le_refl _)).mono ?_); rintro e w5 ⟨y, rfl, -, hs5, hc5⟩; have hr5 := chg_fresh ha4 hc5; have q15 := (HK.out _ hr5).2; have q05 := (HK.out _ hr5).1.1; have f15 := (HK.out _ hr5).1.2; have hgl5 : w1.heap.size < w5.heap.size := Nat.lt_of_lt_of_le hg hr5.size; dsimp only)
          | (refine step_append_list rfl _ _ rfl _ (w.heap.size + 1) w1.heap.size _ _ _ xs [y] rfl rfl (Chg.ow_off (p := p) (w := w3) (by (repeat (first | assumption | exact Chg.refl _ _ _ | refine chg_drew ?_ | refine chg_drewN ?_ _ | refine chg_alloc ?_ _)); done) hO3 (by omega) (by omega)) (sl_lit1 w5 y) (by have := hr5.size; simp; omega) (by simp; omega) ?_; intro v7 w7 ho7 hg7; obtain ⟨A7, c7, rfl, -⟩ := id (ho7.sl (Nat.le_refl _)); have hgb := grown_box (g := w1.heap.size) hg7 hO3 (Nat.le_refl _) (by have := hr5.size; simp; omega);
              have hs7 : w7.cell? ⟨w1.heap.size, 0, none⟩ = some (.int .i64 n) ∧ w7.frozen? ⟨w1.heap.size, 1, none⟩ = false := ⟨(hgb.1 0).trans (HK.out _ (by (repeat (first | assumption | exact Chg.refl _ _ _ | refine chg_drew ?_ | refine chg_drewN ?_ _ | refine chg_alloc ?_ _)); done)).1.1, (hgb.2 1).trans (HK.out _ (by (repeat (first | assumption | exact Chg.refl _ _ _ | refine chg_drew ?_ | refine chg_drewN ?_ _ | refine chg_alloc ?_ _)); done)).1.2⟩; have s71 : w7.cell? ⟨w1.heap.size, 1, none⟩ = some (.slice A1 xs.length c1) := (hgb.1 1).trans (HK.out _ (by (repeat (first | assumption | exact Chg.refl _ _ _ | refine chg_drew ?_ | refine chg_drewN ?_ _ | refine chg_alloc ?_ _)); done)).2; have s70 := hs7.1; have s72 := hs7.2;
              have hs8 : (w7.setCell ⟨w1.heap.size, 1, none⟩ (.slice A7 (xs.length + 1) c7)).cell? ⟨w1.heap.size, 0, none⟩ = some (.int .i64 n) ∧ (w7.setCell ⟨w1.heap.size, 1, none⟩ (.slice A7 (xs.length + 1) c7)).frozen? ⟨w1.heap.size, 1, none⟩ = false := ⟨by rw [World.cell?_setCell_other _ _ _ _ (by simp)]; exact s70, by simpa using s72⟩; clear hgb))
      all_goals
        obtain ⟨⟨g1, g2⟩, hI8, hs8s, hc8⟩ := bent_fin (ys := xs ++ [y]) hp (by omega) hg hO3 hx3 hb3 hc3 hr5 hs5 (by go_grown) hg7 ho7
        rw [show (xs ++ [y]).length = xs.length + 1 by simp] at g1 g2 hI8 hs8s hc8
        obtain ⟨s0, s1, -, -, -⟩ := box2 g1
        obtain ⟨r0, r1, rf0, rf1, -⟩ := box2 g2
        obtain ⟨⟨e1, e2⟩, hI9, hbl⟩ := fin_box (n := n) g2 hI8 (by omega) (by simp [World.setCell])
        have hl9 : (xs ++ [y]).length ≤ 60 := by simp; omega
        have HI9 := Lib.hid hI9
        have HBL := Lib.hid hbl
        have HS8 := Lib.hid hs8s
        have HC8 := Lib.hid hc8
        clear hI9 hbl hs8s hc8 g1 g2 hI8 ho7 hg7 hs5 hr5 hc5 hO4 ha4 hs4 HK
        generalize w7.setCell ⟨w1.heap.size, 1, none⟩ (.slice A7 (xs.length + 1) c7) = W at *
        go_wp2_with fail
        refine bodyPost_ret (v := .agg #[.int .i64 n, .slice A7 (xs.length + 1) c7]) (by simp [results, Try.results80, go_sem, e1, e2]) rfl ?_
        exact ⟨n, _, _, rfl, HI9.out.mono (by omega) (Nat.le_refl _), hl9, by omega, (HS8.out.below HBL.out hp).mono (by omega), HC8.out.then_below HBL.out⟩
    · have hk1b : (k == 1) = false := by simp [hk1]
      by_cases hk2 : k = 2
      · subst hk2
        clear f0 rf0 rf1 r0 r1 q0 q1 f1
        go_wp2_with fail
        go_loopg [38] (41 - xs.length) (fun num _ wr => ∃ (zs : List Int) (A : Option Addr) (c : Nat), Hid (num = 41 - zs.length) ∧ wr.heap[w1.heap.size]? = some (.cells #[.int .i64 n, .slice A zs.length c] 41) ∧ wr.heap[w.heap.size]? = some (.cells #[.int .i64 0, .slice none 0 0] 41) ∧ Ow wr (w.heap.size + 1) wr.heap.size (.slice A zs.length c) zs ∧ zs.length ≤ 41 ∧ Src wr p (K + 604) ∧ Chg p (p + 1) w wr ∧ w1.heap.size < wr.heap.size)
        case atStart => exact ⟨xs, A1, c1, Lib.hid rfl, hb3, hx3, hO3.mono (Nat.le_refl _) (by omega), by omega, hs3.mono (by omega), hc3, hg⟩
        case round =>
          obtain ⟨zs, A, c, HN, hb4, hx4, hO4, hl4, hs4, hc4, hg4⟩ := hrel
          obtain ⟨q0, q1, f0, f1, -⟩ := box2 hb4
          have hz4 := hc4.size
          by_cases hle : zs.length ≤ 40
          · have hleI : (zs.length : Int) ≤ 40 := by omega
            go_wp2_with (at_builtin; (refine wpList_append_one rfl _ _ rfl wr _ _ (.slice A zs.length c) zs 1 rfl rfl hO4 (by omega) (by omega) ?_); intro v5 w5 hO5 hg5 _; obtain ⟨A5, c5, rfl, -⟩ := id (hO5.sl (Nat.le_refl _)); have hb5 := hg5.block w1.heap.size (by omega) (hO4.ne_box hb4 (by decide)).symm; rw [hb4] at hb5; obtain ⟨u0, u1, uf0, uf1, -⟩ := box2 hb5; have HB5 := Lib.hid hb5; clear hb5)
            have hbw := hO4.grown hg5 (Nat.le_refl _) (by omega)
            have hz5 := hbw.size
            have hx5 : w5.heap[w.heap.size]? = some (.cells #[.int .i64 0, .slice none 0 0] 41) := by rw [hbw.block _ (by omega)]; exact hx4
            have hl5 : (zs ++ [1]).length = zs.length + 1 := by simp
            have hbs : Below (w.heap.size + 1) w5 (w5.setCell ⟨w1.heap.size, 1, none⟩ (.slice A5 (zs.length + 1) c5)) := set_below (by simp only; omega) (Below.refl _ _)
            go_roundg (41 - (zs ++ [1]).length)
            case measure => rw [HN.out]; simp; omega
            case rel =>
              refine ⟨zs ++ [1], A5, c5, Lib.hid rfl, by rw [hl5]; exact heap_setCell_at _ HB5.out, ?_, ?_, by rw [hl5]; omega, (hs4.below hbw (by omega)).below hbs (by omega), (hc4.then_below (hbw.mono (by omega))).then_below (hbs.mono (by omega)), Nat.lt_of_lt_of_le (Nat.lt_of_lt_of_le hg4 hz5) hbs.size⟩
              · rw [Below.heap_setCell _ _ _ _ (by simp only; omega)]; exact hx5
              · rw [hl5] at hO5 ⊢; exact (hO5.box_set HB5.out (by decide)).mono (Nat.le_refl _) (by simp [World.setCell])
          · have hleI : ¬ (zs.length : Int) ≤ 40 := by omega
            have h41 := Lib.hid (show zs.length = 41 by omega)
            have hcz : 41 ≤ c := by have := h41.out; obtain ⟨A', c', e', h9, -⟩ := id (hO4.sl (Nat.le_refl _)); injection e' with _ _ e'; omega
            have hs4' : Src wr.drew p (K + 604) := hs4.below (below_drewN (Below.refl wr.heap.size wr) 1) hs4.lt
            have HK := Lib.hid (fun w' (hw : Chg p (p + 1) wr w') => show (w'.cell? ⟨w1.heap.size, 0, none⟩ = some (.int .i64 n) ∧ w'.frozen? ⟨w1.heap.size, 1, none⟩ = false) ∧ w'.cell? ⟨w1.heap.size, 1, none⟩ = some (.slice A zs.length c) from
              ⟨⟨by rw [World.cell?_of_block (w := wr) (hw.block w1.heap.size (by omega) (by omega))]; exact q0, by rw [World.frozen?_of_block (w := wr) (hw.block w1.heap.size (by omega) (by omega))]; exact f1⟩, by rw [World.cell?_of_block (w := wr) (hw.block w1.heap.size (by omega) (by omega))]; exact q1⟩)
            clear hle
            go_wp2_with fail
            go_region_law
              (go_simp; go_at_call 95; (refine (pick_any 3 p _ _ hs4' (by omega)).mono ?_); rintro e w5 ⟨x, rfl, x0, x1, hs5, hc5⟩; have hr5 : Chg p (p + 1) wr w5 := chg_fresh (below_drewN (Below.refl wr.heap.size wr) 1) hc5; have q15 := (HK.out _ hr5).2; have q05 := (HK.out _ hr5).1.1; have f15 := (HK.out _ hr5).1.2; obtain ⟨m, hm1, hm2, hm3⟩ : ∃ m : Nat, IntKind.i64.wrap (39 + x) = (m : Int) ∧ m ≤ 41 ∧ (m : Int) ≤ c := ⟨(39 + x).toNat, (IntWalk.i64_in _ (by omega)).trans (by omega), by omega, by omega⟩; dsimp only)
            all_goals
              have hz5 := hr5.size
              have hO5 := hr5.ow_off hO4 (by omega) (Nat.le_refl _)
              have hb5 : w5.heap[w1.heap.size]? = some (.cells #[.int .i64 n, .slice A zs.length c] 41) := by rw [hr5.block _ (by omega) (by omega)]; exact hb4
              have hx5 : w5.heap[w.heap.size]? = some (.cells #[.int .i64 0, .slice none 0 0] 41) := by rw [hr5.block _ (by omega) (by omega)]; exact hx4
              have g1 := heap_setCell_at (k := 1) (.slice A m c) hb5
              have g2 : (w5.setCell ⟨w1.heap.size, 1, none⟩ (.slice A m c)).heap[w.heap.size]? = some (.cells #[.int .i64 0, .slice none 0 0] 41) := by rw [Below.heap_setCell _ _ _ _ (by simp only; omega)]; exact hx5
              have hI8 := (hO5.slI_set (k := 1) (x := .slice A m c) hb5 (by decide)).take (m := m) (by have := h41.out; omega)
              have hbs : Below (w.heap.size + 1) w5 (w5.setCell ⟨w1.heap.size, 1, none⟩ (.slice A m c)) := set_below (by simp only; omega) (Below.refl _ _)
              have HS8 := Lib.hid (hs5.below hbs (by omega))
              have HC8 := Lib.hid ((hc4.trans hr5).then_below (hbs.mono (by omega)))
              have hz8 := hbs.size
              obtain ⟨s0, s1, -, -, -⟩ := box2 (a := .int .i64 n) (b := .slice A m c) g1
              obtain ⟨r0, r1, rf0, rf1, -⟩ := box2 g2
              obtain ⟨⟨e1, e2⟩, hI9, hbl⟩ := fin_box (n := n) g2 hI8 (by omega) (by omega)
              have hl9 : (zs.take m).length ≤ 60 := by simp; omega
              have HI9 := Lib.hid hI9
              have HBL := Lib.hid hbl
              clear hI9 hbl g1 g2 hI8 hs5 hr5 hc5 hs4' HK hb5 hx5 hO5 hbs q15 q05 f15
              generalize w5.setCell ⟨w1.heap.size, 1, none⟩ (.slice A m c) = W at *
              go_wp2_with fail
              refine bodyPost_ret (v := .agg #[.int .i64 n, .slice A m c]) (by simp [results, Try.results80, go_sem, e1, e2]) rfl ?_
              exact ⟨n, _, _, rfl, HI9.out.mono (by omega) (Nat.le_refl _), hl9, by omega, (HS8.out.below HBL.out hp).mono (by omega), HC8.out.then_below HBL.out⟩
      · have hk2b : (k == 2) = false := by simp [hk2]
        obtain ⟨⟨e1, e2⟩, hI7, hbl⟩ := fin_box (n := n) hx3 hO3.slI (by omega) (by omega)
        go_wp2_with fail
        refine bodyPost_ret (v := .agg #[.int .i64 n, .slice A1 xs.length c1]) (by simp [results, Try.results80, go_sem, e1, e2]) rfl ?_
        exact ⟨n, _, xs, rfl, hI7.mono (by omega) (Nat.le_refl _), by omega, by omega, (hs3.below hbl hp).mono (by omega), hc3.then_below hbl⟩
end Go.Proofs.Ytcoocjdkppdlmaa
