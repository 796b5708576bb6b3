/-
  Proved here: for every input the law FnOrderBraids returns true, and the argument reads behind the call as it read before. No condition.
-/
import Derived.Test.YtcinnbkhnonijaaDb8
import Derived.Test.YtcinnbkhnonijaaFpl
import Derived.ProofKit
import Derived.OpenShut
import Derived.ShutString
import Derived.ChangeOld
import Derived.Below
import Derived.Deep.RegionHeld3
namespace Go.Proofs.Ytcinnbkhnonijaa.fnOrderBraids
set_option maxRecDepth 10000
open Go.ChangeShapes Go.WideShapes Go.ChangeAt Go.RowKit
set_option linter.unusedVariables false

set_option maxRecDepth 100000 in
set_option maxHeartbeats 4000000 in
theorem walk (v : Value) (bs : List Int) (w : World) (h : SlB w w.heap.size v bs) :
    Calls Try.prog 6 #[v] w fun e w' => e = .returned (.bool true) ∧ Below w.heap.size w w' := by
  by_cases hlong : 1048576 < (bs.length : Int)
  · have hlb : decide (1048576 < (bs.length : Int)) = true := by simp [hlong]
    go_enter Try.func6, Try.ntmps6
    go_wp2_with (go_at_call 7; refine (b10Long_any v bs _ _ h).mono ?_; rintro e w' ⟨rfl, rfl⟩)
    go_ret
    exact ⟨rfl, Below.refl _ _⟩
  · have hlb : decide (1048576 < (bs.length : Int)) = false := by simp; omega
    clear hlong
    go_enter Try.func6, Try.ntmps6
    go_wp2_with (go_at_call 7; refine (b10Long_any v bs _ _ h).mono ?_; rintro e w' ⟨rfl, rfl⟩)
    refine (DrawCompareBraids_any v bs _ h).mono ?_
    rintro e w1 ⟨n, r, xs, m, u, ys, b, rfl, hI1, hJ1, hl1, hm1, hbb, hb1⟩
    obtain ⟨A, c, rfl, -⟩ := id hI1
    obtain ⟨A', c', rfl, -⟩ := id hJ1
    clear h
    have ha3 := al1 w1 (.cells #[.int .i64 n, .slice A xs.length c] 26)
    have hu3 := alloc_at_ w1 (.cells #[.int .i64 n, .slice A xs.length c] 26)
    have hsz3 : (w1.alloc (.cells #[.int .i64 n, .slice A xs.length c] 26)).heap.size = w1.heap.size + 1 := by simp
    have ha4 := al1 (w1.alloc (.cells #[.int .i64 n, .slice A xs.length c] 26)) (.cells #[.int .i64 m, .slice A' ys.length c'] 26)
    have hv4 := alloc_at_ (w1.alloc (.cells #[.int .i64 n, .slice A xs.length c] 26)) (.cells #[.int .i64 m, .slice A' ys.length c'] 26)
    have hu4 := ha4.box hu3 (by omega)
    have hb24 := ha3.trans (ha4.mono (by omega))
    rw [hsz3] at hv4
    have hz1 := hb1.size
    have HB4 := Lib.hid (hb1.trans (hb24.mono hz1))
    have hs4 := (hI1.below hb24 (Nat.le_refl _)).sl (Nat.le_refl _)
    have ht4 := (hJ1.below hb24 (Nat.le_refl _)).sl (Nat.le_refl _)
    clear ha3 ha4 hu3 hsz3 hb24 hI1 hJ1 hb1
    go_wp2_with fail
    generalize hW4 : (w1.alloc (.cells #[.int .i64 n, .slice A xs.length c] 26)).alloc (.cells #[.int .i64 m, .slice A' ys.length c'] 26) = w4 at *
    have hg4 := (box2 hv4).2.2.2.2
    clear hW4
    refine (impl_CompareBraids_any n m _ _ xs ys b w1.heap.size w4 hs4 ht4 (by omega)).mono ?_
    rintro e w5 ⟨rfl, hb5⟩
    have hz5 := hb5.size
    have hs5 := hs4.below hb5 (by omega)
    have ht5 := ht4.below hb5 (by omega)
    have hu5 := hb5.box hu4 (by omega)
    have hv5 := hb5.box hv4 (by omega)
    have HB5 := Lib.hid (HB4.out.trans (hb5.mono (by omega)))
    clear hs4 ht4 hu4 hv4 HB4 hb5
    obtain ⟨p0, p1, -, -, -⟩ := box2 hu5
    obtain ⟨q0, q1, -, -, -⟩ := box2 hv5
    go_wp2_with fail
    refine (impl_CompareBraids_any m n _ _ ys xs 5000 w1.heap.size w5 ht5 hs5 (by omega)).mono ?_
    rintro e w6 ⟨rfl, hb6⟩
    have hz6 := hb6.size
    have hs6 := hs5.below hb6 (by omega)
    have ht6 := ht5.below hb6 (by omega)
    have hu6 := hb6.box hu5 (by omega)
    have hv6 := hb6.box hv5 (by omega)
    have HB6 := Lib.hid (HB5.out.trans (hb6.mono (by omega)))
    clear hs5 ht5 hu5 hv5 HB5 hb6 p0 p1 q0 q1
    have H1 := Lib.hid (@cmp_opp n m xs ys b 5000)
    have H2 := Lib.hid (@cmp_eq n m xs ys b)
    have H3 := Lib.hid (show (qA n xs m ys b).2 = 0 → (qA m (ys ++ xs) m (ys ++ ys) 5000).2 = 0 → sgn (qA m (ys ++ xs) m (ys ++ ys) 5000).1 = sgn (qA n xs m ys b).1 from fun h h2 => cmp_left h h2 rfl)
    have H4 := Lib.hid (show (qA n xs m ys b).2 = 0 → okBr n xs = true from fun h => (q_ok h).1)
    have hsg := sgn_cases (qA n xs m ys b).1
    have hsx : -1 ≤ sgn (qA n xs m ys b).1 ∧ sgn (qA n xs m ys b).1 ≤ 1 := by omega
    have hsg2 := sgn_cases (qA m ys n xs 5000).1
    have hsx2 : -1 ≤ sgn (qA m ys n xs 5000).1 ∧ sgn (qA m ys n xs 5000).1 ≤ 1 := by omega
    clear hsg hsg2
    generalize (qA n xs m ys b).2 = c1 at *
    generalize (qA m ys n xs 5000).2 = c2 at *
    generalize sgn (qA n xs m ys b).1 = X at *
    generalize sgn (qA m ys n xs 5000).1 = Y at *
    obtain ⟨x1, x2⟩ := hsx
    obtain ⟨y1, y2⟩ := hsx2
    obtain ⟨p0, p1, -, -, -⟩ := box2 hu6
    obtain ⟨q0, q1, -, -, -⟩ := box2 hv6
    by_cases hc1 : c1 = 0
    · by_cases hc2 : c2 = 0
      · have hY := H1.out hc1 hc2
        have hE := H2.out hc1
        have H5 := Lib.hid (H3.out hc1)
        clear H3
        have hok1 := H4.out hc1
        have HL := Lib.hid (okBr_mem hok1)
        have hln := (okBr_parts hok1).2.2.1
        subst hc1 hc2 hY
        have hq := EqualBraids_any n m _ _ xs ys w1.heap.size w6 hs6 ht6 (by omega)
        rw [hE] at hq
        clear hE H1 H2 H4 hok1
        have t1 : (-X != -X) = false := by simp
        by_cases hX : X = 0
        · rw [decide_eq_true hX] at hq
          have t3 : (-X == 0) = true := by simp [hX]
          have t5 : (true != true) = false := rfl
          have HQ := Lib.hid hq
          clear hq hX
          go_wp2_with fail
          refine HQ.out.mono ?_
          rintro e w7 ⟨rfl, hb7⟩
          have hz7 := hb7.size
          have hs7 := hs6.below hb7 (by omega)
          have ht7 := ht6.below hb7 (by omega)
          have hu7 := hb7.box hu6 (by omega)
          have hv7 := hb7.box hv6 (by omega)
          have HB7 := Lib.hid (HB6.out.trans (hb7.mono (by omega)))
          clear hs6 ht6 hu6 hv6 HB6 hb7 HQ p0 p1 q0 q1
          obtain ⟨p0, p1, -, -, -⟩ := box2 hu7
          obtain ⟨q0, q1, -, -, -⟩ := box2 hv7
          go_wp2_with fail
          refine (JoinBraids_any m _ ys n _ xs w1.heap.size w7 ht7 hs7 (by omega)).mono ?_
          rintro e w8 ⟨r8, rfl, hI8, hb8⟩
          have hz8 := hb8.size
          have hs8 := hs7.below hb8 (by omega)
          have ht8 := ht7.below hb8 (by omega)
          have hu8 := hb8.box hu7 (by omega)
          have hv8 := hb8.box hv7 (by omega)
          have HB8 := Lib.hid (HB7.out.trans (hb8.mono (by omega)))
          obtain ⟨A8, d8, rfl, -⟩ := id hI8
          have HJ1 := Lib.hid (@jnR_ok m n ys xs)
          have hjb := jnR_bd m ys n xs
          generalize (jnR m ys n xs).1 = N1 at *
          generalize (jnR m ys n xs).2.1 = Z1 at *
          generalize (jnR m ys n xs).2.2 = d1 at *
          clear hs7 ht7 hu7 hv7 HB7 hb8 p0 p1 q0 q1
          have ha9 := al1 w8 (.cells #[.int .i64 N1, .slice A8 Z1.length d8] 26)
          have hc9 := alloc_at_ w8 (.cells #[.int .i64 N1, .slice A8 Z1.length d8] 26)
          have hs9 := hs8.below ha9 (by omega)
          have ht9 := ht8.below ha9 (by omega)
          have hu9 := ha9.box hu8 (by omega)
          have hv9 := ha9.box hv8 (by omega)
          have hI9 := (hI8.below ha9 (Nat.le_refl _)).sl (Nat.le_refl _)
          have HB9 := Lib.hid (HB8.out.trans (ha9.mono (by omega)))
          have hz9 := ha9.size
          clear hs8 ht8 hu8 hv8 hI8 HB8 ha9
          obtain ⟨q0, q1, -, -, -⟩ := box2 hv9
          have hg9 := (box2 hc9).2.2.2.2
          go_wp2_with fail
          generalize hW9 : w8.alloc (.cells #[.int .i64 N1, .slice A8 Z1.length d8] 26) = w9 at *
          clear hW9
          refine (JoinBraids_any m _ ys m _ ys w1.heap.size w9 ht9 ht9 (by omega)).mono ?_
          rintro e w10 ⟨r10, rfl, hI10, hb10⟩
          have hz10 := hb10.size
          have hs10 := hs9.below hb10 (by omega)
          have ht10 := ht9.below hb10 (by omega)
          have hu10 := hb10.box hu9 (by omega)
          have hv10 := hb10.box hv9 (by omega)
          have hc10 := hb10.box hc9 (by omega)
          have hJ10 := hI9.below hb10 (by omega)
          have HB10 := Lib.hid (HB9.out.trans (hb10.mono (by omega)))
          obtain ⟨A10, d10, rfl, -⟩ := id hI10
          have HJ2 := Lib.hid (@jnR_ok m m ys ys)
          have hjb2 := jnR_bd m ys m ys
          generalize (jnR m ys m ys).1 = N2 at *
          generalize (jnR m ys m ys).2.1 = Z2 at *
          generalize (jnR m ys m ys).2.2 = d2 at *
          clear hs9 ht9 hu9 hv9 hc9 hI9 HB9 hb10 q0 q1
          have ha11 := al1 w10 (.cells #[.int .i64 N2, .slice A10 Z2.length d10] 26)
          have he11 := alloc_at_ w10 (.cells #[.int .i64 N2, .slice A10 Z2.length d10] 26)
          have hs11 := hs10.below ha11 (by omega)
          have hu11 := ha11.box hu10 (by omega)
          have hc11 := ha11.box hc10 (by omega)
          have hJ11 := hJ10.below ha11 (by omega)
          have hI11 := (hI10.below ha11 (Nat.le_refl _)).sl (Nat.le_refl _)
          have HB11 := Lib.hid (HB10.out.trans (ha11.mono (by omega)))
          have hz11 := ha11.size
          clear hs10 ht10 hu10 hv10 hI10 hJ10 hc10 HB10 ha11
          have hg11 := (box2 he11).2.2.2.2
          go_upto_region 12 with fail
          generalize hW11 : w10.alloc (.cells #[.int .i64 N2, .slice A10 Z2.length d10] 26) = w11 at *
          clear hW11
          go_cut [77] (fun s77 wx => ∃ T : Bool, s77 = .bool T ∧ (T = true → d1 = 0 ∧ d2 = 0) ∧ w11 = wx)
          case first =>
            by_cases hd1 : d1 = 0
            · by_cases hd2 : d2 = 0
              · have t6 : (d1 == 0) = true := by simp [hd1]
                have t7 : (d2 == 0) = true := by simp [hd2]
                have HD := Lib.hid (And.intro hd1 hd2)
                clear hd1 hd2 HJ1 HJ2 hjb hjb2 hc11 he11
                go_wp2_with fail
                go_meet
                exact ⟨true, rfl, fun _ => HD.out, rfl⟩
              · have t6 : (d1 == 0) = true := by simp [hd1]
                have t7 : (d2 == 0) = false := by simp [hd2]
                clear hd1 hd2 HJ1 HJ2 hjb hjb2 hc11 he11
                go_wp2_with fail
                go_meet
                exact ⟨false, rfl, (fun h => by cases h), rfl⟩
            · have t6 : (d1 == 0) = false := by simp [hd1]
              clear hd1 HJ1 HJ2 hjb hjb2 hc11 he11
              go_wp2_with fail
              go_meet
              exact ⟨false, rfl, (fun h => by cases h), rfl⟩
          case rest =>
          obtain ⟨T, rfl, hT, rfl⟩ := hcut
          go_upto_if 77 with fail
          go_cut [] (fun wx => Below w11.heap.size w11 wx)
          case first =>
            cases T
            · clear hT HJ1 HJ2 hjb hjb2 hc11 he11
              go_wp2_with fail
              go_meet
              exact Below.refl _ _
            · obtain ⟨hd1, hd2⟩ := hT rfl
              obtain ⟨-, -, -, -, e1, e2⟩ := HJ1.out hd1
              obtain ⟨-, -, -, -, e3, e4⟩ := HJ2.out hd2
              have HZ := Lib.hid (show (qA N1 Z1 N2 Z2 5000).2 = 0 → sgn (qA N1 Z1 N2 Z2 5000).1 = X by rw [e1, e2, e3, e4]; exact H5.out)
              clear hd1 hd2 e1 e2 e3 e4 H5
              obtain ⟨p0, p1, -, -, -⟩ := box2 hc11
              obtain ⟨q0, q1, -, -, -⟩ := box2 he11
              clear HJ1 HJ2 hjb hjb2 hc11 he11 hT
              go_wp2_with fail
              refine (impl_CompareBraids_any N1 N2 _ _ Z1 Z2 5000 w10.heap.size w11 (hJ11.mono (by omega)) hI11 (by omega)).mono ?_
              rintro e w12 ⟨rfl, hb12⟩
              have hsg3 := sgn_cases (qA N1 Z1 N2 Z2 5000).1
              have hsx3 : -1 ≤ sgn (qA N1 Z1 N2 Z2 5000).1 ∧ sgn (qA N1 Z1 N2 Z2 5000).1 ≤ 1 := by omega
              clear hsg3
              have HB12 := Lib.hid hb12
              clear hb12
              generalize sgn (qA N1 Z1 N2 Z2 5000).1 = Z at *
              generalize (qA N1 Z1 N2 Z2 5000).2 = c3 at *
              obtain ⟨z1, z2⟩ := hsx3
              by_cases hc3 : c3 = 0
              · have hZ := HZ.out hc3
                subst hZ hc3
                go_wp2_with fail
                go_meet
                exact HB12.out
              · have t4 : (c3 == 0) = false := by simp [hc3]
                clear hc3
                go_wp2_with fail
                go_meet
                exact HB12.out
          case rest =>
            obtain ⟨w12, hwc⟩ : ∃ x, x = wc := ⟨_, rfl⟩
            subst hwc
            have hb12 := hcut
            clear hcut
            have hz12 := hb12.size
            have hs12 := hs11.below hb12 (by omega)
            have hu12 := hb12.box hu11 (by omega)
            have HB12 := Lib.hid (HB11.out.trans (hb12.mono (by omega)))
            clear hb12 hs11 hu11 hJ11 hI11 hc11 he11 HB11 HJ1 HJ2 H5 hjb hjb2
            obtain ⟨p0, p1, -, -, -⟩ := box2 hu12
            have ha13 := al1 w12 (.cells #[.int .i64 n, .slice none 0 0] 26)
            have hx13 := alloc_at_ w12 (.cells #[.int .i64 n, .slice none 0 0] 26)
            have hs13 := hs12.below ha13 (by omega)
            have hu13 := ha13.box hu12 (by omega)
            have HB13 := Lib.hid (HB12.out.trans (ha13.mono (by omega)))
            have hz13 := ha13.size
            have hg13 := (box2 hx13).2.2.2.2
            clear hs12 hu12 HB12 ha13
            go_wp2_with fail
            generalize hW13 : w12.alloc (.cells #[.int .i64 n, .slice none 0 0] 26) = w13 at *
            clear hW13 p0 p1
            go_loopw [17] (fun i wr => ∃ (k : Nat) (o : Value) (zs : List Int), i = .int .i64 k ∧ k ≤ xs.length ∧ wr.heap[w12.heap.size]? = some (.cells #[.int .i64 n, o] 26) ∧ Ow wr (w12.heap.size + 1) wr.heap.size o zs ∧ Hid (zs = (xs.take k).map ab) ∧ Below w12.heap.size w13 wr) (fun i _ => xs.length - (intOf i).toNat)
            case atStart => exact ⟨0, _, [], rfl, Nat.zero_le _, hx13, Ow.nil _ _ _, Lib.hid (by simp), Below.refl _ _⟩
            case round =>
              obtain ⟨k, o, zs, rfl, hk, hb14, hO14, HZS, hB14⟩ := hrel
              have hzl : zs.length ≤ xs.length := by rw [HZS.out]; simp; omega
              have hz14 := hB14.size
              have hs14 := hs13.below hB14 (by omega)
              have hu14 := hB14.box hu13 (by omega)
              obtain ⟨p0, p1, -, -, -⟩ := box2 hu14
              obtain ⟨q0, q1, f0, f1, -⟩ := box2 hb14
              by_cases hlt : k < xs.length
              · obtain ⟨A', c', e', hcl, hcm, hcn, hcell⟩ := id hs14
                injection e' with e1 e2 e3
                subst e1 e3
                obtain ⟨bb, off, rfl, hbl, hcell⟩ := hcell (by omega)
                have hck := hcell k hlt
                have hkI : (k : Int) < xs.length := by omega
                have hgx := HL.out _ (gi_mem hlt)
                have HT := Lib.hid (show zs ++ [ab (gi xs k)] = (xs.take (k + 1)).map ab by rw [take_gi hlt, HZS.out]; simp)
                have Hab := Lib.hid (show ab (gi xs k) = if gi xs k < 0 then -(gi xs k) else gi xs k by unfold ab; split <;> omega)
                generalize gi xs k = gx at *
                obtain ⟨-, gx1, gx2⟩ := hgx
                clear hcell hs14 hu14 hcn HZS
                by_cases hneg : gx < 0
                · have hab : ab gx = -gx := by rw [Hab.out, if_pos hneg]
                  rw [hab] at HT
                  clear hab Hab
                  go_wp2_with (at_builtin; (refine wpList_append_one rfl _ _ rfl wr _ _ o _ (-gx) rfl rfl hO14 (by omega) (by omega) ?_); intro v5 w5 hO5 hg5 _; obtain ⟨A5, c5, rfl, -⟩ := id (hO5.sl (Nat.le_refl _)); have hb5 := hg5.block w12.heap.size (by omega) (hO14.ne_box hb14 (by decide)).symm; rw [hb14] at hb5; obtain ⟨u0, u1, uf0, uf1, -⟩ := box2 hb5; have HB5 := Lib.hid hb5; clear hb5)
                  have hbw := hO14.grown hg5 (Nat.le_refl _) (by omega)
                  have hz5 := hbw.size
                  have hl5 : ∀ y : Int, (zs ++ [y]).length = zs.length + 1 := fun y => by simp
                  go_roundw
                  case rel => exact ⟨k + 1, _, _, by go_num, by omega, heap_setCell_at _ HB5.out, by rw [hl5] at hO5; exact (hO5.box_set HB5.out (by decide)).mono (Nat.le_refl _) (by simp [World.setCell]), HT, (hB14.trans (hbw.mono (by omega))).trans (set_below (Nat.le_refl _) (Below.refl _ _))⟩
                  case measure => simp [intOf]; omega
                · have hab : ab gx = gx := by rw [Hab.out, if_neg hneg]
                  rw [hab] at HT
                  clear hab Hab
                  go_wp2_with (at_builtin; (refine wpList_append_one rfl _ _ rfl wr _ _ o _ gx rfl rfl hO14 (by omega) (by omega) ?_); intro v5 w5 hO5 hg5 _; obtain ⟨A5, c5, rfl, -⟩ := id (hO5.sl (Nat.le_refl _)); have hb5 := hg5.block w12.heap.size (by omega) (hO14.ne_box hb14 (by decide)).symm; rw [hb14] at hb5; obtain ⟨u0, u1, uf0, uf1, -⟩ := box2 hb5; have HB5 := Lib.hid hb5; clear hb5)
                  have hbw := hO14.grown hg5 (Nat.le_refl _) (by omega)
                  have hz5 := hbw.size
                  have hl5 : ∀ y : Int, (zs ++ [y]).length = zs.length + 1 := fun y => by simp
                  go_roundw
                  case rel => exact ⟨k + 1, _, _, by go_num, by omega, heap_setCell_at _ HB5.out, by rw [hl5] at hO5; exact (hO5.box_set HB5.out (by decide)).mono (Nat.le_refl _) (by simp [World.setCell]), HT, (hB14.trans (hbw.mono (by omega))).trans (set_below (Nat.le_refl _) (Below.refl _ _))⟩
                  case measure => simp [intOf]; omega
              · obtain rfl : k = xs.length := by omega
                have hzs : zs = xs.map ab := by rw [HZS.out, List.take_length]
                have HP := Lib.hid (fun h => pos_sign (s := n) (ps := zs) (b := 5000) h (fun x hx => by rw [hzs] at hx; obtain ⟨y, hy, rfl⟩ := List.mem_map.1 hx; have := HL.out y hy; unfold ab; omega))
                clear hzs HZS
                obtain ⟨A9, c9, rfl, -⟩ := id (hO14.sl (Nat.le_refl _))
                have HR := Lib.hid (HB13.out.trans (hB14.mono (by omega)))
                clear hs14 hu14 hs13 hu13 hx13 hb14 hB14
                go_wp2_with fail
                refine (impl_SignOfBraid_any n _ zs 5000 _ wr (hO14.sl (Nat.le_refl _)) (Nat.le_refl _)).mono ?_
                rintro e w15 ⟨rfl, hb15⟩
                obtain ⟨hcx, hfx⟩ := bcell hb15
                have r0 := hcx w12.heap.size 0 (by omega)
                have r1 := hcx w12.heap.size 1 (by omega)
                rw [q0] at r0
                rw [q1] at r1
                clear hcx hfx q0 q1 f0 f1 p0 p1
                have HF := Lib.hid (HR.out.trans (hb15.mono (by omega)))
                clear hb15
                have hsg5 := sgn_cases (hfA n zs 5000).1
                have hsx5 : -1 ≤ sgn (hfA n zs 5000).1 ∧ sgn (hfA n zs 5000).1 ≤ 1 := by omega
                clear hsg5
                generalize sgn (hfA n zs 5000).1 = Z at *
                generalize (hfA n zs 5000).2.2 = c4 at *
                obtain ⟨z1, z2⟩ := hsx5
                by_cases hc4 : c4 = 0
                · have hp := HP.out hc4
                  subst hc4
                  clear HP
                  rcases hp with hp | ⟨hp, hp2⟩
                  · subst hp
                    go_wp2_with fail
                    go_ret
                    exact ⟨rfl, HF.out⟩
                  · subst hp hp2
                    go_wp2_with fail
                    go_ret
                    exact ⟨rfl, HF.out⟩
                · have t4 : (c4 != 0) = true := by simp [hc4]
                  clear hc4 HP
                  go_wp2_with fail
                  go_ret
                  exact ⟨rfl, HF.out⟩
        · rw [decide_eq_false hX] at hq
          have t3 : (-X == 0) = false := by simpa using hX
          have t5 : (false != false) = false := rfl
          have HQ := Lib.hid hq
          clear hq
          go_wp2_with fail
          refine HQ.out.mono ?_
          rintro e w7 ⟨rfl, hb7⟩
          have hz7 := hb7.size
          have hs7 := hs6.below hb7 (by omega)
          have ht7 := ht6.below hb7 (by omega)
          have hu7 := hb7.box hu6 (by omega)
          have hv7 := hb7.box hv6 (by omega)
          have HB7 := Lib.hid (HB6.out.trans (hb7.mono (by omega)))
          clear hs6 ht6 hu6 hv6 HB6 hb7 HQ p0 p1 q0 q1
          obtain ⟨p0, p1, -, -, -⟩ := box2 hu7
          obtain ⟨q0, q1, -, -, -⟩ := box2 hv7
          go_wp2_with fail
          refine (JoinBraids_any m _ ys n _ xs w1.heap.size w7 ht7 hs7 (by omega)).mono ?_
          rintro e w8 ⟨r8, rfl, hI8, hb8⟩
          have hz8 := hb8.size
          have hs8 := hs7.below hb8 (by omega)
          have ht8 := ht7.below hb8 (by omega)
          have hu8 := hb8.box hu7 (by omega)
          have hv8 := hb8.box hv7 (by omega)
          have HB8 := Lib.hid (HB7.out.trans (hb8.mono (by omega)))
          obtain ⟨A8, d8, rfl, -⟩ := id hI8
          have HJ1 := Lib.hid (@jnR_ok m n ys xs)
          have hjb := jnR_bd m ys n xs
          generalize (jnR m ys n xs).1 = N1 at *
          generalize (jnR m ys n xs).2.1 = Z1 at *
          generalize (jnR m ys n xs).2.2 = d1 at *
          clear hs7 ht7 hu7 hv7 HB7 hb8 p0 p1 q0 q1
          have ha9 := al1 w8 (.cells #[.int .i64 N1, .slice A8 Z1.length d8] 26)
          have hc9 := alloc_at_ w8 (.cells #[.int .i64 N1, .slice A8 Z1.length d8] 26)
          have hs9 := hs8.below ha9 (by omega)
          have ht9 := ht8.below ha9 (by omega)
          have hu9 := ha9.box hu8 (by omega)
          have hv9 := ha9.box hv8 (by omega)
          have hI9 := (hI8.below ha9 (Nat.le_refl _)).sl (Nat.le_refl _)
          have HB9 := Lib.hid (HB8.out.trans (ha9.mono (by omega)))
          have hz9 := ha9.size
          clear hs8 ht8 hu8 hv8 hI8 HB8 ha9
          obtain ⟨q0, q1, -, -, -⟩ := box2 hv9
          have hg9 := (box2 hc9).2.2.2.2
          go_wp2_with fail
          generalize hW9 : w8.alloc (.cells #[.int .i64 N1, .slice A8 Z1.length d8] 26) = w9 at *
          clear hW9
          refine (JoinBraids_any m _ ys m _ ys w1.heap.size w9 ht9 ht9 (by omega)).mono ?_
          rintro e w10 ⟨r10, rfl, hI10, hb10⟩
          have hz10 := hb10.size
          have hs10 := hs9.below hb10 (by omega)
          have ht10 := ht9.below hb10 (by omega)
          have hu10 := hb10.box hu9 (by omega)
          have hv10 := hb10.box hv9 (by omega)
          have hc10 := hb10.box hc9 (by omega)
          have hJ10 := hI9.below hb10 (by omega)
          have HB10 := Lib.hid (HB9.out.trans (hb10.mono (by omega)))
          obtain ⟨A10, d10, rfl, -⟩ := id hI10
          have HJ2 := Lib.hid (@jnR_ok m m ys ys)
          have hjb2 := jnR_bd m ys m ys
          generalize (jnR m ys m ys).1 = N2 at *
          generalize (jnR m ys m ys).2.1 = Z2 at *
          generalize (jnR m ys m ys).2.2 = d2 at *
          clear hs9 ht9 hu9 hv9 hc9 hI9 HB9 hb10 q0 q1
          have ha11 := al1 w10 (.cells #[.int .i64 N2, .slice A10 Z2.length d10] 26)
          have he11 := alloc_at_ w10 (.cells #[.int .i64 N2, .slice A10 Z2.length d10] 26)
          have hs11 := hs10.below ha11 (by omega)
          have hu11 := ha11.box hu10 (by omega)
          have hc11 := ha11.box hc10 (by omega)
          have hJ11 := hJ10.below ha11 (by omega)
          have hI11 := (hI10.below ha11 (Nat.le_refl _)).sl (Nat.le_refl _)
          have HB11 := Lib.hid (HB10.out.trans (ha11.mono (by omega)))
          have hz11 := ha11.size
          clear hs10 ht10 hu10 hv10 hI10 hJ10 hc10 HB10 ha11
          have hg11 := (box2 he11).2.2.2.2
          go_upto_region 12 with fail
          generalize hW11 : w10.alloc (.cells #[.int .i64 N2, .slice A10 Z2.length d10] 26) = w11 at *
          clear hW11
          go_cut [77] (fun s77 wx => ∃ T : Bool, s77 = .bool T ∧ (T = true → d1 = 0 ∧ d2 = 0) ∧ w11 = wx)
          case first =>
            by_cases hd1 : d1 = 0
            · by_cases hd2 : d2 = 0
              · have t6 : (d1 == 0) = true := by simp [hd1]
                have t7 : (d2 == 0) = true := by simp [hd2]
                have HD := Lib.hid (And.intro hd1 hd2)
                clear hd1 hd2 HJ1 HJ2 hjb hjb2 hc11 he11
                go_wp2_with fail
                go_meet
                exact ⟨true, rfl, fun _ => HD.out, rfl⟩
              · have t6 : (d1 == 0) = true := by simp [hd1]
                have t7 : (d2 == 0) = false := by simp [hd2]
                clear hd1 hd2 HJ1 HJ2 hjb hjb2 hc11 he11
                go_wp2_with fail
                go_meet
                exact ⟨false, rfl, (fun h => by cases h), rfl⟩
            · have t6 : (d1 == 0) = false := by simp [hd1]
              clear hd1 HJ1 HJ2 hjb hjb2 hc11 he11
              go_wp2_with fail
              go_meet
              exact ⟨false, rfl, (fun h => by cases h), rfl⟩
          case rest =>
          obtain ⟨T, rfl, hT, rfl⟩ := hcut
          go_upto_if 77 with fail
          go_cut [] (fun wx => Below w11.heap.size w11 wx)
          case first =>
            cases T
            · clear hT HJ1 HJ2 hjb hjb2 hc11 he11
              go_wp2_with fail
              go_meet
              exact Below.refl _ _
            · obtain ⟨hd1, hd2⟩ := hT rfl
              obtain ⟨-, -, -, -, e1, e2⟩ := HJ1.out hd1
              obtain ⟨-, -, -, -, e3, e4⟩ := HJ2.out hd2
              have HZ := Lib.hid (show (qA N1 Z1 N2 Z2 5000).2 = 0 → sgn (qA N1 Z1 N2 Z2 5000).1 = X by rw [e1, e2, e3, e4]; exact H5.out)
              clear hd1 hd2 e1 e2 e3 e4 H5
              obtain ⟨p0, p1, -, -, -⟩ := box2 hc11
              obtain ⟨q0, q1, -, -, -⟩ := box2 he11
              clear HJ1 HJ2 hjb hjb2 hc11 he11 hT
              go_wp2_with fail
              refine (impl_CompareBraids_any N1 N2 _ _ Z1 Z2 5000 w10.heap.size w11 (hJ11.mono (by omega)) hI11 (by omega)).mono ?_
              rintro e w12 ⟨rfl, hb12⟩
              have hsg3 := sgn_cases (qA N1 Z1 N2 Z2 5000).1
              have hsx3 : -1 ≤ sgn (qA N1 Z1 N2 Z2 5000).1 ∧ sgn (qA N1 Z1 N2 Z2 5000).1 ≤ 1 := by omega
              clear hsg3
              have HB12 := Lib.hid hb12
              clear hb12
              generalize sgn (qA N1 Z1 N2 Z2 5000).1 = Z at *
              generalize (qA N1 Z1 N2 Z2 5000).2 = c3 at *
              obtain ⟨z1, z2⟩ := hsx3
              by_cases hc3 : c3 = 0
              · have hZ := HZ.out hc3
                subst hZ hc3
                go_wp2_with fail
                go_meet
                exact HB12.out
              · have t4 : (c3 == 0) = false := by simp [hc3]
                clear hc3
                go_wp2_with fail
                go_meet
                exact HB12.out
          case rest =>
            obtain ⟨w12, hwc⟩ : ∃ x, x = wc := ⟨_, rfl⟩
            subst hwc
            have hb12 := hcut
            clear hcut
            have hz12 := hb12.size
            have hs12 := hs11.below hb12 (by omega)
            have hu12 := hb12.box hu11 (by omega)
            have HB12 := Lib.hid (HB11.out.trans (hb12.mono (by omega)))
            clear hb12 hs11 hu11 hJ11 hI11 hc11 he11 HB11 HJ1 HJ2 H5 hjb hjb2
            obtain ⟨p0, p1, -, -, -⟩ := box2 hu12
            have ha13 := al1 w12 (.cells #[.int .i64 n, .slice none 0 0] 26)
            have hx13 := alloc_at_ w12 (.cells #[.int .i64 n, .slice none 0 0] 26)
            have hs13 := hs12.below ha13 (by omega)
            have hu13 := ha13.box hu12 (by omega)
            have HB13 := Lib.hid (HB12.out.trans (ha13.mono (by omega)))
            have hz13 := ha13.size
            have hg13 := (box2 hx13).2.2.2.2
            clear hs12 hu12 HB12 ha13
            go_wp2_with fail
            generalize hW13 : w12.alloc (.cells #[.int .i64 n, .slice none 0 0] 26) = w13 at *
            clear hW13 p0 p1
            go_loopw [17] (fun i wr => ∃ (k : Nat) (o : Value) (zs : List Int), i = .int .i64 k ∧ k ≤ xs.length ∧ wr.heap[w12.heap.size]? = some (.cells #[.int .i64 n, o] 26) ∧ Ow wr (w12.heap.size + 1) wr.heap.size o zs ∧ Hid (zs = (xs.take k).map ab) ∧ Below w12.heap.size w13 wr) (fun i _ => xs.length - (intOf i).toNat)
            case atStart => exact ⟨0, _, [], rfl, Nat.zero_le _, hx13, Ow.nil _ _ _, Lib.hid (by simp), Below.refl _ _⟩
            case round =>
              obtain ⟨k, o, zs, rfl, hk, hb14, hO14, HZS, hB14⟩ := hrel
              have hzl : zs.length ≤ xs.length := by rw [HZS.out]; simp; omega
              have hz14 := hB14.size
              have hs14 := hs13.below hB14 (by omega)
              have hu14 := hB14.box hu13 (by omega)
              obtain ⟨p0, p1, -, -, -⟩ := box2 hu14
              obtain ⟨q0, q1, f0, f1, -⟩ := box2 hb14
              by_cases hlt : k < xs.length
              · obtain ⟨A', c', e', hcl, hcm, hcn, hcell⟩ := id hs14
                injection e' with e1 e2 e3
                subst e1 e3
                obtain ⟨bb, off, rfl, hbl, hcell⟩ := hcell (by omega)
                have hck := hcell k hlt
                have hkI : (k : Int) < xs.length := by omega
                have hgx := HL.out _ (gi_mem hlt)
                have HT := Lib.hid (show zs ++ [ab (gi xs k)] = (xs.take (k + 1)).map ab by rw [take_gi hlt, HZS.out]; simp)
                have Hab := Lib.hid (show ab (gi xs k) = if gi xs k < 0 then -(gi xs k) else gi xs k by unfold ab; split <;> omega)
                generalize gi xs k = gx at *
                obtain ⟨-, gx1, gx2⟩ := hgx
                clear hcell hs14 hu14 hcn HZS
                by_cases hneg : gx < 0
                · have hab : ab gx = -gx := by rw [Hab.out, if_pos hneg]
                  rw [hab] at HT
                  clear hab Hab
                  go_wp2_with (at_builtin; (refine wpList_append_one rfl _ _ rfl wr _ _ o _ (-gx) rfl rfl hO14 (by omega) (by omega) ?_); intro v5 w5 hO5 hg5 _; obtain ⟨A5, c5, rfl, -⟩ := id (hO5.sl (Nat.le_refl _)); have hb5 := hg5.block w12.heap.size (by omega) (hO14.ne_box hb14 (by decide)).symm; rw [hb14] at hb5; obtain ⟨u0, u1, uf0, uf1, -⟩ := box2 hb5; have HB5 := Lib.hid hb5; clear hb5)
                  have hbw := hO14.grown hg5 (Nat.le_refl _) (by omega)
                  have hz5 := hbw.size
                  have hl5 : ∀ y : Int, (zs ++ [y]).length = zs.length + 1 := fun y => by simp
                  go_roundw
                  case rel => exact ⟨k + 1, _, _, by go_num, by omega, heap_setCell_at _ HB5.out, by rw [hl5] at hO5; exact (hO5.box_set HB5.out (by decide)).mono (Nat.le_refl _) (by simp [World.setCell]), HT, (hB14.trans (hbw.mono (by omega))).trans (set_below (Nat.le_refl _) (Below.refl _ _))⟩
                  case measure => simp [intOf]; omega
                · have hab : ab gx = gx := by rw [Hab.out, if_neg hneg]
                  rw [hab] at HT
                  clear hab Hab
                  go_wp2_with (at_builtin; (refine wpList_append_one rfl _ _ rfl wr _ _ o _ gx rfl rfl hO14 (by omega) (by omega) ?_); intro v5 w5 hO5 hg5 _; obtain ⟨A5, c5, rfl, -⟩ := id (hO5.sl (Nat.le_refl _)); have hb5 := hg5.block w12.heap.size (by omega) (hO14.ne_box hb14 (by decide)).symm; rw [hb14] at hb5; obtain ⟨u0, u1, uf0, uf1, -⟩ := box2 hb5; have HB5 := Lib.hid hb5; clear hb5)
                  have hbw := hO14.grown hg5 (Nat.le_refl _) (by omega)
                  have hz5 := hbw.size
                  have hl5 : ∀ y : Int, (zs ++ [y]).length = zs.length + 1 := fun y => by simp
                  go_roundw
                  case rel => exact ⟨k + 1, _, _, by go_num, by omega, heap_setCell_at _ HB5.out, by rw [hl5] at hO5; exact (hO5.box_set HB5.out (by decide)).mono (Nat.le_refl _) (by simp [World.setCell]), HT, (hB14.trans (hbw.mono (by omega))).trans (set_below (Nat.le_refl _) (Below.refl _ _))⟩
                  case measure => simp [intOf]; omega
              · obtain rfl : k = xs.length := by omega
                have hzs : zs = xs.map ab := by rw [HZS.out, List.take_length]
                have HP := Lib.hid (fun h => pos_sign (s := n) (ps := zs) (b := 5000) h (fun x hx => by rw [hzs] at hx; obtain ⟨y, hy, rfl⟩ := List.mem_map.1 hx; have := HL.out y hy; unfold ab; omega))
                clear hzs HZS
                obtain ⟨A9, c9, rfl, -⟩ := id (hO14.sl (Nat.le_refl _))
                have HR := Lib.hid (HB13.out.trans (hB14.mono (by omega)))
                clear hs14 hu14 hs13 hu13 hx13 hb14 hB14
                go_wp2_with fail
                refine (impl_SignOfBraid_any n _ zs 5000 _ wr (hO14.sl (Nat.le_refl _)) (Nat.le_refl _)).mono ?_
                rintro e w15 ⟨rfl, hb15⟩
                obtain ⟨hcx, hfx⟩ := bcell hb15
                have r0 := hcx w12.heap.size 0 (by omega)
                have r1 := hcx w12.heap.size 1 (by omega)
                rw [q0] at r0
                rw [q1] at r1
                clear hcx hfx q0 q1 f0 f1 p0 p1
                have HF := Lib.hid (HR.out.trans (hb15.mono (by omega)))
                clear hb15
                have hsg5 := sgn_cases (hfA n zs 5000).1
                have hsx5 : -1 ≤ sgn (hfA n zs 5000).1 ∧ sgn (hfA n zs 5000).1 ≤ 1 := by omega
                clear hsg5
                generalize sgn (hfA n zs 5000).1 = Z at *
                generalize (hfA n zs 5000).2.2 = c4 at *
                obtain ⟨z1, z2⟩ := hsx5
                by_cases hc4 : c4 = 0
                · have hp := HP.out hc4
                  subst hc4
                  clear HP
                  rcases hp with hp | ⟨hp, hp2⟩
                  · subst hp
                    go_wp2_with fail
                    go_ret
                    exact ⟨rfl, HF.out⟩
                  · subst hp hp2
                    go_wp2_with fail
                    go_ret
                    exact ⟨rfl, HF.out⟩
                · have t4 : (c4 != 0) = true := by simp [hc4]
                  clear hc4 HP
                  go_wp2_with fail
                  go_ret
                  exact ⟨rfl, HF.out⟩
      · have t4 : (c2 != 0) = true := by simp [hc2]
        clear H1 H2 H3 H4
        subst hc1
        clear hc2 hs6 ht6 hu6 hv6
        go_wp2_with fail
        go_ret
        exact ⟨rfl, HB6.out⟩
    · have t4 : (c1 != 0) = true := by simp [hc1]
      clear hc1 H1 H2 H3 H4 hs6 ht6 hu6 hv6
      go_wp2_with fail
      go_ret
      exact ⟨rfl, HB6.out⟩
set_option maxRecDepth 100000 in
theorem lifted (os : Os) (started : os.Started) (H : Type) (enc : TypeId × Value → H) :
    ReturnsInHanded {} Try.checked os 6 .any (Rows.fnOrderBraidsSpec.pre6 enc Try.prog Try.f6 Rows.fnOrderBraidsRow.domain false) (Rows.fnOrderBraidsSpec.post enc Try.prog Try.f6 false true false false) := by
  refine returnsInHanded_of_change (C := Try.checked) own_knob started (by kernel_rfl) Try.func6
    (ChangeSpec.witness6 (enc := enc) (C := Try.checked) false ⟨#[], #[.slice none 0 0], []⟩ 8 (by kernel_rfl) (by kernel_rfl) (by kernel_rfl) (by kernel_rfl)) ?_
  intro W base args ds gs before hval0 hW hcnd _
  have hval : ∀ (j : Nat) t v, Try.f6.params[j]? = some t → args[j]? = some v → Value.okWide Try.prog W .any base t v := hval0
  have hW' := hW
  obtain ⟨p, q, hA0, hV, rfl, hfz, hnd⟩ := hW
  have hA : DataW.TrodAll enc Try.prog W 0 (fun _ => true) true Try.f6.params.toList args.toList ds p := hA0
  rw [Try.params6] at hA hval
  obtain ⟨v0, vs0, d0, ds0, p0, q0, hargs, rfl, rfl, h0, r0⟩ := trodAll_cons hA
  obtain ⟨rfl, rfl, rfl⟩ := trodAll_nil r0
  obtain rfl : args = #[v0] := by cases args; simp_all
  obtain ⟨rfl, rfl⟩ := trodVars_none hV
  have k0 := h0
  have lt0 : ∀ x ∈ p0, x.block < W.heap.size := by obtain ⟨m, hm⟩ := k0; exact DataW.trod_lt m _ _ _ hm
  obtain ⟨bs, s0⟩ := open_SlB (hval 0 22 v0 rfl rfl) h0
  clear hA0 hval0
  refine (walk v0 bs W s0).mono fun e W' ⟨he, bel⟩ => ?_
  subst he
  exact ⟨_, rfl, _, _, _, [], _, [], hW', trodAll_mk1 (shut_bool Try.underlying4 _), (trodAll_cons_mk (Below.trod laid_out (by kernel_rfl) (of_decide_eq_true (by kernel_rfl)) k0 bel lt0) trodAll_mk0), rfl, bel.frame _, fun h => by cases h⟩

/-- The statement. -/
theorem proved : Rows.FnOrderBraidsSaid :=
  OpenClaim.holds_of_wide 6 Try.f6 rfl rfl rfl rfl rfl rfl rfl ⟨rfl, rfl, rfl, rfl, rfl⟩ rfl rfl rfl rfl rfl (by kernel_rfl) Try.func6 (by kernel_rfl)
    (of_decide_eq_true (by kernel_rfl)) (by unfold Func.isWrapper; first | (rw [if_pos (by decide +kernel)]; kernel_rfl) | (rw [if_neg (by decide +kernel)]; exact ⟨rfl, rfl⟩))
    (fun os started H enc _ => lifted os started H enc)
#print axioms proved
end Go.Proofs.Ytcinnbkhnonijaa.fnOrderBraids
