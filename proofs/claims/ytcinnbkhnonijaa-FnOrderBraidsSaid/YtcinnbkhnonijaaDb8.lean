/-
  Contracts: what the reference draws for the laws of handles, of the order and of the Artin action.
-/
import Derived.Test.YtcinnbkhnonijaaDb6
import Derived.Test.YtcinnbkhnonijaaDb7
import Derived.Deep.RegionHeld3
import Derived.Deep.DeepCutAuto
namespace Go.Proofs.Ytcinnbkhnonijaa
set_option maxRecDepth 10000
open Go.RowKit

set_option maxRecDepth 100000 in
set_option maxHeartbeats 6400000 in
theorem DrawHandleTrivial_any (v0 : Value) (bs : List Int) (w : World) (h : SlB w w.heap.size v0 bs) :
    Calls Try.prog 11 #[v0] w fun e w' => ∃ (n : Int) (v : Value) (xs : List Int) (b : Int), e = .returned (.tuple #[.agg #[.int .i64 n, v], .int .i64 b]) ∧ SlI w.heap.size w'.heap.size w' v xs ∧ xs.length ≤ 100 ∧ (-1 ≤ b ∧ b ≤ 5001) ∧ Below w.heap.size w w' := by
  have hA := al1 w (.cells #[.int .i64 0, .slice none 0 0] 26)
  have hx := alloc_at_ w (.cells #[.int .i64 0, .slice none 0 0] 26)
  generalize hW : w.alloc (.cells #[.int .i64 0, .slice none 0 0] 26) = W at hA hx
  have hWs : W.heap.size = w.heap.size + 1 := by rw [← hW]; simp
  obtain ⟨p, hpe, hpl, hpu⟩ : ∃ p, W.heap.size = p ∧ w.heap.size + 1 ≤ p ∧ p ≤ w.heap.size + 1 := ⟨_, rfl, by omega, by omega⟩
  have hSl : SlB W W.heap.size v0 bs := (h.below hA).up (by omega)
  go_enter Try.func11, Try.ntmps11
  go_wp2_with fail
  refine (l00From_any v0 bs W hSl).mono ?_
  rintro e w1 ⟨rfl, hs1, hb1⟩
  rw [hpe] at hs1 hb1 ⊢
  have hz1 := hb1.size
  have hp1 := hs1.lt
  have hx1 := hb1.box hx (by omega)
  have hB1 : Below w.heap.size w w1 := hA.trans (hb1.mono (by omega))
  clear hb1 hx hA hSl h hW hWs hpe  
  go_wp2_with fail
  refine (l05DrawEqual_any 7 p 0 w1 hs1 (by omega) (by omega) (by omega)).mono ?_
  rintro e w2 ⟨n, r, xs, m, u, ys, rfl, hI2, hJ2, hl2, hm2, hs2, hc2⟩
  obtain ⟨A, c, rfl, -⟩ := id hI2
  obtain ⟨A', c', rfl, -⟩ := id hJ2
  have hz2 := hc2.size
  have hx2 := hc2.box hx1 (by omega) (by omega)
  have hB2 : Below w.heap.size w w2 := hB1.trans (hc2.below (by omega) (by omega))
  clear hs1 hc2 hx1 hB1 
  have ha3 := al1 w2 (.cells #[.int .i64 n, .slice A xs.length c] 26)
  have hu3 := alloc_at_ w2 (.cells #[.int .i64 n, .slice A xs.length c] 26)
  have hsz3 : (w2.alloc (.cells #[.int .i64 n, .slice A xs.length c] 26)).heap.size = w2.heap.size + 1 := by simp
  have ha4 := al1 (w2.alloc (.cells #[.int .i64 n, .slice A xs.length c] 26)) (.cells #[.int .i64 m, .slice A' ys.length c'] 26)
  have hv4 := alloc_at_ (w2.alloc (.cells #[.int .i64 n, .slice A xs.length c] 26)) (.cells #[.int .i64 m, .slice A' ys.length c'] 26)
  have hu4 := ha4.box hu3 (by omega)
  have hb24 := ha3.trans (ha4.mono (by omega))
  rw [hsz3] at hv4
  go_wp2_with fail
  generalize hW4 : (w2.alloc (.cells #[.int .i64 n, .slice A xs.length c] 26)).alloc (.cells #[.int .i64 m, .slice A' ys.length c'] 26) = w4 at *
  have hI4 := hI2.below hb24 (Nat.le_refl _)
  have hJ4 := hJ2.below hb24 (Nat.le_refl _)
  have hs4 := hs2.below hb24 (by omega)
  have hx4 := hb24.box hx2 (by omega)
  have HB4 := Lib.hid (hB2.trans (hb24.mono (by omega)))
  have hg4 := (box2 hv4).2.2.2.2
  clear hW4 ha3 ha4 hu3 hsz3 hb24 hI2 hJ2 hs2 hx2 hB2
  go_upto_region 4 with fail
  go_cut [7, 8] (fun s7 s8 wx => ∃ (g : Nat) (k : Int) (D : Option Addr) (d : Nat) (zs : List Int) (cd : Int), s7 = .pointer (some ⟨g, 0, none⟩) ∧ s8 = .int .i64 cd ∧ wx.heap[g]? = some (.cells #[.int .i64 k, .slice D zs.length d] 26) ∧ w4.heap.size ≤ g ∧ SlI w4.heap.size wx.heap.size wx (.slice D zs.length d) zs ∧ zs.length ≤ 100 ∧ Below w4.heap.size w4 wx)
  case first =>
    obtain ⟨u0, u1, -, -, -⟩ := box2 hu4
    obtain ⟨q0, q1, -, -, -⟩ := box2 hv4
    have HK := Lib.hid (fun w' (hw : Below w4.heap.size w4 w') => show w'.cell? ⟨w2.heap.size, 0, none⟩ = some (.int .i64 n) ∧ w'.cell? ⟨w2.heap.size, 1, none⟩ = some (.slice A xs.length c) ∧ w'.cell? ⟨w2.heap.size + 1, 0, none⟩ = some (.int .i64 m) ∧ w'.cell? ⟨w2.heap.size + 1, 1, none⟩ = some (.slice A' ys.length c') ∧ Below w4.heap.size w4 w' from
      ⟨by rw [hw.cell (by simp only; omega)]; exact u0, by rw [hw.cell (by simp only; omega)]; exact u1, by rw [hw.cell (by simp only; omega)]; exact q0, by rw [hw.cell (by simp only; omega)]; exact q1, hw⟩)
    have HJ := Lib.hid (jnR_bd (ivN n xs) (ivX n xs) m ys)
    clear u0 u1 q0 q1 hu4 hv4
    go_region_held3 (fun w' => w'.cell? ⟨w2.heap.size, 0, none⟩ = some (.int .i64 n) ∧ w'.cell? ⟨w2.heap.size, 1, none⟩ = some (.slice A xs.length c) ∧ w'.cell? ⟨w2.heap.size + 1, 0, none⟩ = some (.int .i64 m) ∧ w'.cell? ⟨w2.heap.size + 1, 1, none⟩ = some (.slice A' ys.length c') ∧ Below w4.heap.size w4 w')
      (exact HK.out _ (by go_grown))
      (first
        | (go_at_call 35; (refine (InvertBraid_any n _ xs w2.heap.size _ ((hI4.below (show Below w4.heap.size w4 _ by go_grown) (by omega)).sl (Nat.le_refl _)) (Nat.le_trans (show w2.heap.size ≤ w4.heap.size by omega) (Below.size (w := w4) (B := w4.heap.size) (by go_grown)))).mono ?_); rintro e w5 ⟨r5, rfl, hI5, hq5⟩; have hr5 : Below w4.heap.size w4 w5 := Below.trans (show Below w4.heap.size w4 _ by go_grown) (hq5.mono (Below.size (w := w4) (B := w4.heap.size) (by go_grown))); have hz5 := hr5.size; have hI5 : SlI w4.heap.size w5.heap.size w5 r5 (ivX n xs) := hI5.mono (Below.size (w := w4) (B := w4.heap.size) (by go_grown)) (Nat.le_refl _); (first | (have dz5 := alloc_fwd hq5) | (have dz5 := alloc_fwd_drew hq5) | (have dz5 := alloc_fwd_in hq5) | (have dz5 := alloc_fwd_drewN hq5) | skip); (first | (have hbx := box2 dz5; obtain ⟨d5a, d5b, d5c, d5d, d5e⟩ := hbx) | skip))
        | (go_at_call 24; (refine (JoinBraids_any _ _ (ivX n xs) m _ ys w5.heap.size _ ((hI5.below (show Below w5.heap.size w5 _ by go_grown) (Nat.le_refl _)).sl (Nat.le_refl _)) (((hJ4.below hr5 (by omega)).below (show Below w5.heap.size w5 _ by go_grown) (by omega)).sl (by omega)) (Below.size (w := w5) (B := w5.heap.size) (by go_grown))).mono ?_); rintro e w6 ⟨r6, rfl, hI6, hq6⟩; have hr6 : Below w4.heap.size w4 w6 := Below.trans (show Below w4.heap.size w4 _ by go_grown) (hq6.mono (Below.size (w := w4) (B := w4.heap.size) (by go_grown))); have hz6 := hr6.size; have hI6o := hI6; have hI6 : SlI w5.heap.size w6.heap.size w6 r6 (jnR (ivN n xs) (ivX n xs) m ys).2.1 := hI6.mono (Below.size (w := w5) (B := w5.heap.size) (by go_grown)) (Nat.le_refl _); obtain ⟨A6, c6, rfl, -⟩ := id hI6; (first | (have dz6 := alloc_fwd hq6) | (have dz6 := alloc_fwd_drew hq6) | (have dz6 := alloc_fwd_in hq6) | (have dz6 := alloc_fwd_drewN hq6) | (have dz6 := keep_fwd hq6 dz5) | skip); (first | (have hbx := box2 dz6; obtain ⟨d6a, d6b, d6c, d6d, d6e⟩ := hbx) | skip)))
    · have hJ := HJ.out
      generalize (jnR (ivN n xs) (ivX n xs) m ys).1 = k at *
      generalize (jnR (ivN n xs) (ivX n xs) m ys).2.1 = zs at *
      generalize (jnR (ivN n xs) (ivX n xs) m ys).2.2 = cd at *
      have ha7 := al1 w6 (.cells #[.int .i64 k, .slice A6 zs.length c6] 26)
      have hx7 := alloc_at_ w6 (.cells #[.int .i64 k, .slice A6 zs.length c6] 26)
      have HI := Lib.hid ((hI6.below ha7 (Nat.le_refl _)).mono hz5 ha7.size)
      have HR := Lib.hid (hr6.trans (ha7.mono hz6))
      have HX := Lib.hid hx7
      clear ha7 hx7 hI6 hI6o hr6 hr5 HK HJ hq6 hq5
      go_wp2_with fail
      go_meet
      exact ⟨_, k, A6, c6, zs, cd, rfl, rfl, HX.out, hz6, HI.out, by omega, HR.out⟩
    · have hJ := HJ.out
      generalize (jnR (ivN n xs) (ivX n xs) m ys).1 = k at *
      generalize (jnR (ivN n xs) (ivX n xs) m ys).2.1 = zs at *
      generalize (jnR (ivN n xs) (ivX n xs) m ys).2.2 = cd at *
      have hx7 := heap_setCell_at (k := 1) (.slice A6 zs.length c6) (heap_setCell_at (k := 0) (.int .i64 k) dz6)
      obtain ⟨-, hI9, hbl⟩ := fin_box (n := k) dz6 hI6o (by simp) (Nat.le_refl _)
      have HI := Lib.hid (hI9.mono (lo' := w4.heap.size) (by simp; omega) (Nat.le_refl _))
      have HR := Lib.hid (hr6.trans (hbl.mono hz5))
      have HX := Lib.hid hx7
      clear hx7 hI9 hbl hI6 hI6o hr6 hr5 HK HJ hq6 hq5
      go_wp2_with fail
      go_meet
      exact ⟨_, k, A6, c6, zs, cd, rfl, rfl, HX.out, hz5, HI.out, by omega, HR.out⟩
    · have hJ := HJ.out
      generalize (jnR (ivN n xs) (ivX n xs) m ys).1 = k at *
      generalize (jnR (ivN n xs) (ivX n xs) m ys).2.1 = zs at *
      generalize (jnR (ivN n xs) (ivX n xs) m ys).2.2 = cd at *
      have hx7 := heap_setCell_at (k := 1) (.slice A6 zs.length c6) (heap_setCell_at (k := 0) (.int .i64 k) dz6)
      obtain ⟨-, hI9, hbl⟩ := fin_box (n := k) dz6 hI6 (heap_lt dz5) (Nat.le_refl _)
      have HI := Lib.hid (hI9.mono (lo' := w4.heap.size) hz5 (Nat.le_refl _))
      have HR := Lib.hid (hr6.trans hbl)
      have HX := Lib.hid hx7
      clear hx7 hI9 hbl hI6 hI6o hr6 hr5 HK HJ hq6 hq5
      go_wp2_with fail
      go_meet
      exact ⟨_, k, A6, c6, zs, cd, rfl, rfl, HX.out, Nat.le_refl _, HI.out, by omega, HR.out⟩
  case rest =>
    obtain ⟨g, k, D, d, zs, cd, rfl, rfl, hg9, hgl, hI9, hl9, hb9⟩ := hcut
    obtain ⟨w9, hwc⟩ : ∃ x, x = wc := ⟨_, rfl⟩
    subst hwc
    have hz9 := hb9.size
    have hs9 := hs4.below hb9 (by omega)
    have hx9 := hb9.box hx4 (by omega)
    have hv9 := hb9.box hv4 (by omega)
    have HB9 := Lib.hid (HB4.out.trans (hb9.mono (by omega)))
    have hJ9 := hJ4.below hb9 (by omega)
    have hgs := (box2 hg9).2.2.2.2
    clear hb9 HB4 hx4 hs4 hv4 hu4 hJ4 hI4
    by_cases hcd : cd = 0
    · have hcb : (cd != 0) = false := by simp [hcd]
      clear hcd
      obtain ⟨u0, u1, uf0, uf1, -⟩ := box2 hg9
      obtain ⟨r0, r1, rf0, rf1, -⟩ := box2 hx9
      have hsd : Src w9.drew p _ := hs9.below (below_drewN (Below.refl w9.heap.size w9) 1) hs9.lt
      have HK := Lib.hid (fun w' (hw : Chg p (p + 1) w9 w') => show (w'.cell? ⟨g, 0, none⟩ = some (.int .i64 k) ∧ w'.cell? ⟨g, 1, none⟩ = some (.slice D zs.length d)) ∧
          (w'.cell? ⟨w.heap.size, 0, none⟩ = some (.int .i64 0) ∧ w'.cell? ⟨w.heap.size, 1, none⟩ = some (.slice none 0 0) ∧ w'.frozen? ⟨w.heap.size, 0, none⟩ = false ∧ w'.frozen? ⟨w.heap.size, 1, none⟩ = false) from
        have e1 := hw.block g (by omega) (by omega)
        have e2 := hw.block w.heap.size (by omega) (by omega)
        ⟨⟨by rw [World.cell?_of_block (w := w9) e1]; exact u0, by rw [World.cell?_of_block (w := w9) e1]; exact u1⟩, by rw [World.cell?_of_block (w := w9) e2]; exact r0, by rw [World.cell?_of_block (w := w9) e2]; exact r1, by rw [World.frozen?_of_block (w := w9) e2]; exact rf0, by rw [World.frozen?_of_block (w := w9) e2]; exact rf1⟩)
      clear r0 r1 rf0 rf1 uf0 uf1
      go_wp2_with fail
      go_region_law
        (go_simp; go_at_call 36; (refine (l06DrawBudget_any p _ _ hsd (by omega)).mono ?_); rintro e w7 ⟨bu, rfl, hbu, hs7, hc7⟩; have hr7 : Chg p (p + 1) w9 w7 := chg_fresh (below_drewN (Below.refl w9.heap.size w9) 1) hc7; obtain ⟨⟨q07, q17⟩, r0, r1, rf0, rf1⟩ := HK.out _ hr7; dsimp only)
      all_goals
        have hz7 := hr7.size
        have hI7 := hI9.keep (w' := w7) fun j h1 h2 => hr7.block j (by omega) (by omega)
        have hx7 := hr7.box hx9 (by omega) (by omega)
        obtain ⟨⟨e1, e2⟩, hI8, hbl⟩ := fin_box (n := k) hx7 hI7 (by omega) (by omega)
        have HI := Lib.hid (hI8.mono (lo' := w.heap.size) (by omega) (Nat.le_refl _))
        have HR := Lib.hid ((HB9.out.trans (hr7.below (B := w.heap.size) (by omega) (by omega))).trans hbl)
        clear hr7 HK hI7 hI8 hbl hc7 hs7 hsd
        go_wp2_with fail
        refine bodyPost_ret (v := .tuple #[.agg #[.int .i64 k, .slice D zs.length d], .int .i64 bu]) (by simp [results, Try.results11, go_sem, e1, e2]) rfl ?_
        exact ⟨k, _, zs, bu, rfl, HI.out, by omega, hbu, HR.out⟩
    · have hcb : (cd != 0) = true := by simp [hcd]
      clear hcd
      obtain ⟨u0, u1, uf0, uf1, -⟩ := box2 hg9
      obtain ⟨v0', v1', -, -, -⟩ := box2 hv9
      go_wp2_with fail
      have hX := heap_setCell_at (k := 1) (.slice A' ys.length c') (heap_setCell_at (k := 0) (.int .i64 m) hg9)
      have hbs : Below g w9 ((w9.setCell ⟨g, 0, none⟩ (.int .i64 m)).setCell ⟨g, 1, none⟩ (.slice A' ys.length c')) := set_below (Nat.le_refl _) (set_below (Nat.le_refl _) (Below.refl _ _))
      have hJX := hJ9.below hbs (by omega)
      have hsX := hs9.below hbs (by omega)
      have hxX := hbs.box hx9 (by omega)
      have HBX := Lib.hid (HB9.out.trans (hbs.mono (by omega)))
      have hzX := hbs.size
      generalize hWX : (w9.setCell ⟨g, 0, none⟩ (.int .i64 m)).setCell ⟨g, 1, none⟩ (.slice A' ys.length c') = wX at *
      have hX : wX.heap[g]? = some (.cells #[.int .i64 m, .slice A' ys.length c'] 26) := hX
      clear hWX hbs hJ9 hs9 hx9 HB9 u0 u1 uf0 uf1 v0' v1' hg9 hv9 hI9
      obtain ⟨u0, u1, uf0, uf1, hgX⟩ := box2 hX
      obtain ⟨r0, r1, rf0, rf1, -⟩ := box2 hxX
      have hsd : Src wX.drew p _ := hsX.below (below_drewN (Below.refl wX.heap.size wX) 1) hsX.lt
      have HK := Lib.hid (fun w' (hw : Chg p (p + 1) wX w') => show (w'.cell? ⟨g, 0, none⟩ = some (.int .i64 m) ∧ w'.cell? ⟨g, 1, none⟩ = some (.slice A' ys.length c')) ∧
          (w'.cell? ⟨w.heap.size, 0, none⟩ = some (.int .i64 0) ∧ w'.cell? ⟨w.heap.size, 1, none⟩ = some (.slice none 0 0) ∧ w'.frozen? ⟨w.heap.size, 0, none⟩ = false ∧ w'.frozen? ⟨w.heap.size, 1, none⟩ = false) from
        have e1 := hw.block g (by omega) (by omega)
        have e2 := hw.block w.heap.size (by omega) (by omega)
        ⟨⟨by rw [World.cell?_of_block (w := wX) e1]; exact u0, by rw [World.cell?_of_block (w := wX) e1]; exact u1⟩, by rw [World.cell?_of_block (w := wX) e2]; exact r0, by rw [World.cell?_of_block (w := wX) e2]; exact r1, by rw [World.frozen?_of_block (w := wX) e2]; exact rf0, by rw [World.frozen?_of_block (w := wX) e2]; exact rf1⟩)
      clear r0 r1 rf0 rf1 uf0 uf1
      go_wp2_with fail
      go_region_law
        (go_simp; go_at_call 36; (refine (l06DrawBudget_any p _ _ hsd (by omega)).mono ?_); rintro e w7 ⟨bu, rfl, hbu, hs7, hc7⟩; have hr7 : Chg p (p + 1) wX w7 := chg_fresh (below_drewN (Below.refl wX.heap.size wX) 1) hc7; obtain ⟨⟨q07, q17⟩, r0, r1, rf0, rf1⟩ := HK.out _ hr7; dsimp only)
      all_goals
        have hz7 := hr7.size
        have hI7 := hJX.keep (w' := w7) fun j h1 h2 => hr7.block j (by omega) (by omega)
        have hx7 := hr7.box hxX (by omega) (by omega)
        obtain ⟨⟨e1, e2⟩, hI8, hbl⟩ := fin_box (n := m) hx7 hI7 (by omega) (by omega)
        have HI := Lib.hid (hI8.mono (lo' := w.heap.size) (by omega) (Nat.le_refl _))
        have HR := Lib.hid ((HBX.out.trans (hr7.below (B := w.heap.size) (by omega) (by omega))).trans hbl)
        clear hr7 HK hI7 hI8 hbl hc7 hs7 hsd
        go_wp2_with fail
        refine bodyPost_ret (v := .tuple #[.agg #[.int .i64 m, .slice A' ys.length c'], .int .i64 bu]) (by simp [results, Try.results11, go_sem, e1, e2]) rfl ?_
        exact ⟨m, _, ys, bu, rfl, HI.out, by omega, hbu, HR.out⟩
set_option maxRecDepth 100000 in
set_option maxHeartbeats 6400000 in
theorem DrawCompareBraids_any (v0 : Value) (bs : List Int) (w : World) (h : SlB w w.heap.size v0 bs) :
    Calls Try.prog 22 #[v0] w fun e w' => ∃ (n : Int) (v : Value) (xs : List Int) (m : Int) (u : Value) (ys : List Int) (b : Int), e = .returned (.tuple #[.agg #[.int .i64 n, v], .agg #[.int .i64 m, u], .int .i64 b]) ∧ SlI w.heap.size w'.heap.size w' v xs ∧ SlI w.heap.size w'.heap.size w' u ys ∧ xs.length ≤ 100 ∧ ys.length ≤ 100 ∧ (-1 ≤ b ∧ b ≤ 5001) ∧ Below w.heap.size w w' := by
  have hA := al1 w (.cells #[.int .i64 0, .slice none 0 0] 26)
  have hx := alloc_at_ w (.cells #[.int .i64 0, .slice none 0 0] 26)
  generalize hW : w.alloc (.cells #[.int .i64 0, .slice none 0 0] 26) = W at hA hx
  have hWs : W.heap.size = w.heap.size + 1 := by rw [← hW]; simp
  have hA2 := al1 W (.cells #[.int .i64 0, .slice none 0 0] 26)
  have hy := alloc_at_ W (.cells #[.int .i64 0, .slice none 0 0] 26)
  have hx := hA2.box hx (by omega)
  generalize hW2 : W.alloc (.cells #[.int .i64 0, .slice none 0 0] 26) = W2 at hA2 hx hy
  have hA := hA.trans (hA2.mono (by omega))
  rw [hWs] at hy
  have hWs : W2.heap.size = w.heap.size + 2 := by rw [← hW2]; simp [hWs]
  clear hA2
  obtain ⟨p, hpe, hpl, hpu⟩ : ∃ p, W2.heap.size = p ∧ w.heap.size + 2 ≤ p ∧ p ≤ w.heap.size + 2 := ⟨_, rfl, by omega, by omega⟩
  have hSl : SlB W2 W2.heap.size v0 bs := (h.below hA).up (by omega)
  go_enter Try.func22, Try.ntmps22
  go_wp2_with fail
  refine (l00From_any v0 bs W2 hSl).mono ?_
  rintro e w1 ⟨rfl, hs1, hb1⟩
  rw [hpe] at hs1 hb1 ⊢
  have hz1 := hb1.size
  have hp1 := hs1.lt
  have hx1 := hb1.box hx (by omega)
  have hy1 := hb1.box hy (by omega)
  have hB1 : Below w.heap.size w w1 := hA.trans (hb1.mono (by omega))
  clear hb1 hx hA hSl h hW hWs hpe hy hW2
  go_wp2_with fail
  refine (l05DrawEqual_any 8 p 0 w1 hs1 (by omega) (by omega) (by omega)).mono ?_
  rintro e w2 ⟨n, r, xs, m, u, ys, rfl, hI2, hJ2, hl2, hm2, hs2, hc2⟩
  obtain ⟨A, c, rfl, -⟩ := id hI2
  obtain ⟨A', c', rfl, -⟩ := id hJ2
  have hz2 := hc2.size
  have hx2 := hc2.box hx1 (by omega) (by omega)
  have hy2 := hc2.box hy1 (by omega) (by omega)
  have hB2 : Below w.heap.size w w2 := hB1.trans (hc2.below (by omega) (by omega))
  clear hs1 hc2 hx1 hB1 hy1
  have ha3 := al1 w2 (.cells #[.int .i64 n, .slice A xs.length c] 26)
  have hu3 := alloc_at_ w2 (.cells #[.int .i64 n, .slice A xs.length c] 26)
  have hsz3 : (w2.alloc (.cells #[.int .i64 n, .slice A xs.length c] 26)).heap.size = w2.heap.size + 1 := by simp
  have ha4 := al1 (w2.alloc (.cells #[.int .i64 n, .slice A xs.length c] 26)) (.cells #[.int .i64 m, .slice A' ys.length c'] 26)
  have hv4 := alloc_at_ (w2.alloc (.cells #[.int .i64 n, .slice A xs.length c] 26)) (.cells #[.int .i64 m, .slice A' ys.length c'] 26)
  have hu4 := ha4.box hu3 (by omega)
  have hb24 := ha3.trans (ha4.mono (by omega))
  rw [hsz3] at hv4
  go_wp2_with fail
  generalize hW4 : (w2.alloc (.cells #[.int .i64 n, .slice A xs.length c] 26)).alloc (.cells #[.int .i64 m, .slice A' ys.length c'] 26) = w4 at *
  have hI4 := hI2.below hb24 (Nat.le_refl _)
  have hJ4 := hJ2.below hb24 (Nat.le_refl _)
  have hs4 := hs2.below hb24 (by omega)
  have hx4 := hb24.box hx2 (by omega)
  have hy4 := hb24.box hy2 (by omega)
  have HB4 := Lib.hid (hB2.trans (hb24.mono (by omega)))
  have hg4 := (box2 hv4).2.2.2.2
  clear hW4 ha3 ha4 hu3 hsz3 hb24 hI2 hJ2 hs2 hx2 hy2 hB2
  obtain ⟨u0, u1, -, -, -⟩ := box2 hu4
  obtain ⟨q0, q1, -, -, -⟩ := box2 hv4
  obtain ⟨r0, r1, rf0, rf1, -⟩ := box2 hx4
  obtain ⟨o0, o1, of0, of1, -⟩ := box2 hy4
  have hzs4 : w2.heap.size ≤ w4.heap.size := by omega
  have hsd : Src w4.drew p _ := hs4.below (below_drewN (Below.refl w4.heap.size w4) 1) hs4.lt
  have HK := Lib.hid (fun w' (hw : Chg p (p + 1) w4 w') => show ((w'.cell? ⟨w2.heap.size, 0, none⟩ = some (.int .i64 n) ∧ w'.cell? ⟨w2.heap.size, 1, none⟩ = some (.slice A xs.length c)) ∧ (w'.cell? ⟨w2.heap.size + 1, 0, none⟩ = some (.int .i64 m) ∧ w'.cell? ⟨w2.heap.size + 1, 1, none⟩ = some (.slice A' ys.length c'))) ∧
      (w'.cell? ⟨w.heap.size, 0, none⟩ = some (.int .i64 0) ∧ w'.cell? ⟨w.heap.size, 1, none⟩ = some (.slice none 0 0) ∧ w'.frozen? ⟨w.heap.size, 0, none⟩ = false ∧ w'.frozen? ⟨w.heap.size, 1, none⟩ = false) ∧ (w'.cell? ⟨w.heap.size + 1, 0, none⟩ = some (.int .i64 0) ∧ w'.cell? ⟨w.heap.size + 1, 1, none⟩ = some (.slice none 0 0) ∧ w'.frozen? ⟨w.heap.size + 1, 0, none⟩ = false ∧ w'.frozen? ⟨w.heap.size + 1, 1, none⟩ = false) from
    have e1 := hw.block w2.heap.size (by omega) (by omega)
    have e2 := hw.block (w2.heap.size + 1) (by omega) (by omega)
    have e3 := hw.block w.heap.size (by omega) (by omega)
    have e4 := hw.block (w.heap.size + 1) (by omega) (by omega)
    ⟨⟨⟨by rw [World.cell?_of_block (w := w4) e1]; exact u0, by rw [World.cell?_of_block (w := w4) e1]; exact u1⟩, by rw [World.cell?_of_block (w := w4) e2]; exact q0, by rw [World.cell?_of_block (w := w4) e2]; exact q1⟩,
      ⟨by rw [World.cell?_of_block (w := w4) e3]; exact r0, by rw [World.cell?_of_block (w := w4) e3]; exact r1, by rw [World.frozen?_of_block (w := w4) e3]; exact rf0, by rw [World.frozen?_of_block (w := w4) e3]; exact rf1⟩,
      by rw [World.cell?_of_block (w := w4) e4]; exact o0, by rw [World.cell?_of_block (w := w4) e4]; exact o1, by rw [World.frozen?_of_block (w := w4) e4]; exact of0, by rw [World.frozen?_of_block (w := w4) e4]; exact of1⟩)
  clear r0 r1 rf0 rf1 o0 o1 of0 of1
  go_region_law
    (go_simp; go_at_call 36; (refine (l06DrawBudget_any p _ _ hsd (by omega)).mono ?_); rintro e w7 ⟨bu, rfl, hbu, hs7, hc7⟩; have hr7 : Chg p (p + 1) w4 w7 := chg_fresh (below_drewN (Below.refl w4.heap.size w4) 1) hc7; obtain ⟨⟨⟨u07, u17⟩, q07, q17⟩, ⟨r0, r1, rf0, rf1⟩, o0, o1, of0, of1⟩ := HK.out _ hr7; dsimp only)
  all_goals
    have hz7 := hr7.size
    have hI7 := hI4.keep (w' := w7) fun j h1 h2 => hr7.block j (by omega) (by omega)
    have hJ7 := hJ4.keep (w' := w7) fun j h1 h2 => hr7.block j (by omega) (by omega)
    have hx7 := hr7.box hx4 (by omega) (by omega)
    have hy7 := hr7.box hy4 (by omega) (by omega)
    obtain ⟨⟨e1, e2, e3, e4⟩, hkp, hszf, hbl⟩ := fin_four (x0 := .int .i64 n) (x1 := .slice A xs.length c) (x2 := .int .i64 m) (x3 := .slice A' ys.length c') hx7 hy7
    have F1 := Lib.hid ((hI7.keep fun j h1 _ => hkp j (by omega)).mono (lo' := w.heap.size) (by omega) (Nat.le_trans (show w2.heap.size ≤ w7.heap.size by omega) (Nat.le_of_eq hszf.symm)))
    have F2 := Lib.hid ((hJ7.keep fun j h1 _ => hkp j (by omega)).mono (lo' := w.heap.size) (by omega) (Nat.le_trans (show w2.heap.size ≤ w7.heap.size by omega) (Nat.le_of_eq hszf.symm)))
    have F4 := Lib.hid ((HB4.out.trans (hr7.below (B := w.heap.size) (by omega) (by omega))).trans hbl)
    clear hkp hszf hbl HK hsd hc7 hr7 hI7 hJ7 hs7
    go_wp2_with fail
    refine bodyPost_ret (v := .tuple #[.agg #[.int .i64 n, .slice A xs.length c], .agg #[.int .i64 m, .slice A' ys.length c'], .int .i64 bu]) (by simp [results, Try.results22, go_sem, e1, e2, e3, e4]) rfl ?_
    exact ⟨n, _, xs, m, _, ys, bu, rfl, F1.out, F2.out, hl2, hm2, hbu, F4.out⟩
set_option maxRecDepth 100000 in
set_option maxHeartbeats 6400000 in
theorem DrawArtinEqual_any (v0 : Value) (bs : List Int) (w : World) (h : SlB w w.heap.size v0 bs) :
    Calls Try.prog 8 #[v0] w fun e w' => ∃ (n : Int) (v : Value) (xs : List Int) (m : Int) (u : Value) (ys : List Int), e = .returned (.tuple #[.agg #[.int .i64 n, v], .agg #[.int .i64 m, u]]) ∧ SlI w.heap.size w'.heap.size w' v xs ∧ SlI w.heap.size w'.heap.size w' u ys ∧ xs.length ≤ 100 ∧ ys.length ≤ 100 ∧ Below w.heap.size w w' := by
  have hA := al1 w (.cells #[.int .i64 0, .slice none 0 0] 26)
  have hx := alloc_at_ w (.cells #[.int .i64 0, .slice none 0 0] 26)
  generalize hW : w.alloc (.cells #[.int .i64 0, .slice none 0 0] 26) = W at hA hx
  have hWs : W.heap.size = w.heap.size + 1 := by rw [← hW]; simp
  have hA2 := al1 W (.cells #[.int .i64 0, .slice none 0 0] 26)
  have hy := alloc_at_ W (.cells #[.int .i64 0, .slice none 0 0] 26)
  have hx := hA2.box hx (by omega)
  generalize hW2 : W.alloc (.cells #[.int .i64 0, .slice none 0 0] 26) = W2 at hA2 hx hy
  have hA := hA.trans (hA2.mono (by omega))
  rw [hWs] at hy
  have hWs : W2.heap.size = w.heap.size + 2 := by rw [← hW2]; simp [hWs]
  clear hA2
  obtain ⟨p, hpe, hpl, hpu⟩ : ∃ p, W2.heap.size = p ∧ w.heap.size + 2 ≤ p ∧ p ≤ w.heap.size + 2 := ⟨_, rfl, by omega, by omega⟩
  have hSl : SlB W2 W2.heap.size v0 bs := (h.below hA).up (by omega)
  go_enter Try.func8, Try.ntmps8
  go_wp2_with fail
  refine (l00From_any v0 bs W2 hSl).mono ?_
  rintro e w1 ⟨rfl, hs1, hb1⟩
  rw [hpe] at hs1 hb1 ⊢
  have hz1 := hb1.size
  have hp1 := hs1.lt
  have hx1 := hb1.box hx (by omega)
  have hy1 := hb1.box hy (by omega)
  have hB1 : Below w.heap.size w w1 := hA.trans (hb1.mono (by omega))
  clear hb1 hx hA hSl h hW hWs hpe hy hW2
  go_wp2_with fail
  refine (l05DrawEqual_any 6 p 0 w1 hs1 (by omega) (by omega) (by omega)).mono ?_
  rintro e w2 ⟨n, r, xs, m, u, ys, rfl, hI2, hJ2, hl2, hm2, hs2, hc2⟩
  obtain ⟨A, c, rfl, -⟩ := id hI2
  obtain ⟨A', c', rfl, -⟩ := id hJ2
  have hz2 := hc2.size
  have hx2 := hc2.box hx1 (by omega) (by omega)
  have hy2 := hc2.box hy1 (by omega) (by omega)
  have hB2 : Below w.heap.size w w2 := hB1.trans (hc2.below (by omega) (by omega))
  clear hs1 hc2 hx1 hB1 hy1
  obtain ⟨r0, r1, rf0, rf1, -⟩ := box2 hx2
  obtain ⟨o0, o1, of0, of1, -⟩ := box2 hy2
  obtain ⟨⟨e1, e2, e3, e4⟩, hkp, hszf, hbl⟩ := fin_four (x0 := .int .i64 n) (x1 := .slice A xs.length c) (x2 := .int .i64 m) (x3 := .slice A' ys.length c') hx2 hy2
  have F1 := Lib.hid ((hI2.keep fun j h1 _ => hkp j (by omega)).mono (lo' := w.heap.size) (by omega) (Nat.le_of_eq hszf.symm))
  have F2 := Lib.hid ((hJ2.keep fun j h1 _ => hkp j (by omega)).mono (lo' := w.heap.size) (by omega) (Nat.le_of_eq hszf.symm))
  have F4 := Lib.hid (hB2.trans hbl)
  clear hkp hszf hbl hI2 hJ2 hs2 hB2 hx2 hy2
  go_wp2_with fail
  refine bodyPost_ret (v := .tuple #[.agg #[.int .i64 n, .slice A xs.length c], .agg #[.int .i64 m, .slice A' ys.length c']]) (by simp [results, Try.results8, go_sem, e1, e2, e3, e4]) rfl ?_
  exact ⟨n, _, xs, m, _, ys, rfl, F1.out, F2.out, hl2, hm2, F4.out⟩
end Go.Proofs.Ytcinnbkhnonijaa
