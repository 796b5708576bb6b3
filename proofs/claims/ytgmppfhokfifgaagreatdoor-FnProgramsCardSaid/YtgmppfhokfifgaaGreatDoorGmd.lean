/-
  Contracts: the program's makesLoop, carrierFits. Printed by gen_cfi.py.
-/
import Derived.Test.YtgmppfhokfifgaaGreatDoorGpo
import Derived.Test.YtgmppfhokfifgaaGreatDoorGvm
import Derived.Test.YtgmppfhokfifgaaGreatDoorGma
import Derived.Test.YtgmppfhokfifgaaGreatDoorGmc
import Derived.IntWalk
import Derived.Lib.QuietBelow
namespace Go.Proofs.YtgmppfhokfifgaaGreatDoor
set_option maxRecDepth 10000
open Go.RowKit

theorem SlK.at_ {w : World} {B : Nat} {v : Value} {C : List (Bool × Int)} (h : SlK w B v C) (K : Nat) (hK : K < C.length) :
    ∃ p o cap, v = .slice (some ⟨p, o, none⟩) C.length cap ∧ p < w.heap.size ∧ w.cell? ⟨p, o + K * 2, none⟩ = some (.bool (gc C K).1) ∧ w.cell? ⟨p, o + K * 2 + 1, none⟩ = some (.int .i64 (gc C K).2) := by
  obtain ⟨A, c, e, -, -, hc⟩ := h.cells
  obtain ⟨b, off, rfl, -, hk⟩ := hc (by omega)
  exact ⟨b, off, c, e, block_lt_of_cell (hk K hK).1, (hk K hK).1, (hk K hK).2⟩
def op8 (o : List Int) : Value := .agg #[.int .i64 (gi o 0), .int .i64 (gi o 1), .int .i64 (gi o 2), .int .i64 (gi o 3), .int .i64 (gi o 4), .int .i64 (gi o 5), .int .i64 (gi o 6), .int .i64 (gi o 7)]
/-- Boxes of eight cells. -/
theorem box8 {w : World} {g : Nat} {a b c d e f h i : Value} {t : TypeId} (hx : w.heap[g]? = some (.cells #[a, b, c, d, e, f, h, i] t)) :
    (w.cell? ⟨g, 0, none⟩ = some a ∧ w.cell? ⟨g, 1, none⟩ = some b ∧ w.cell? ⟨g, 2, none⟩ = some c ∧ w.cell? ⟨g, 3, none⟩ = some d ∧ w.cell? ⟨g, 4, none⟩ = some e ∧ w.cell? ⟨g, 5, none⟩ = some f ∧ w.cell? ⟨g, 6, none⟩ = some h ∧ w.cell? ⟨g, 7, none⟩ = some i) ∧ (∀ k, w.frozen? ⟨g, k, none⟩ = false) ∧ g < w.heap.size :=
  ⟨⟨cell_of_row w g 0 _ t (0, 0) hx, cell_of_row w g 1 _ t (0, 0) hx, cell_of_row w g 2 _ t (0, 0) hx, cell_of_row w g 3 _ t (0, 0) hx, cell_of_row w g 4 _ t (0, 0) hx, cell_of_row w g 5 _ t (0, 0) hx, cell_of_row w g 6 _ t (0, 0) hx, cell_of_row w g 7 _ t (0, 0) hx⟩, fun k => by simp only [World.frozen?, hx]; simp, heap_lt hx⟩
theorem makesLoop_any (k : Int) (w : World) : Calls Tryz.prog 95 #[.int .i64 k] w fun e w' => e = .returned (.bool (mkB k)) ∧ w = w' := by
  by_cases h1 : k = 1
  · subst h1
    go_enter Tryz.func95, Tryz.ntmps95
    go_wp2
    go_ret
    exact ⟨rfl, rfl⟩
  · by_cases h2 : k = 2
    · subst h2
      go_enter Tryz.func95, Tryz.ntmps95
      go_wp2
      go_ret
      exact ⟨rfl, rfl⟩
    · by_cases h5 : k = 5
      · subst h5
        go_enter Tryz.func95, Tryz.ntmps95
        go_wp2
        go_ret
        exact ⟨rfl, rfl⟩
      · have HT : Hid (mkB k = false) := Lib.hid (by simp [mkB, h1, h2, h5])
        have e1 : (k == 1) = false := by simp [h1]
        have e2 : (k == 2) = false := by simp [h2]
        have e5 : (k == 5) = false := by simp [h5]
        clear h1 h2 h5
        go_enter Tryz.func95, Tryz.ntmps95
        go_wp2
        go_ret
        exact ⟨ret_bool HT.out.symm, rfl⟩
set_option maxRecDepth 100000 in
set_option maxHeartbeats 6400000 in
theorem carrierFits_any {w : World} {g : Nat} {m : Mac} {o : List Int} {f b c l d : Value} {B : Nat} (hx : w.heap[g]? = some (.cells #[.int .i64 m.wd, .int .i64 m.rk, f, b, c, l, d] 75)) (hc : SlK w B c m.cr) (hok : OkM m) (ho : OpOk m o) :
    Calls Tryz.prog 129 #[.pointer (some ⟨g, 0, none⟩), op8 o] w fun e w' => e = .returned (.bool (cfB m o)) ∧ Below w.heap.size w w' := by
  have hgl := heap_lt hx
  have hform := op_form ho.op
  have hcr := hok.cr
  have hcs := hok.cs
  have hrk := hok.rk
  have hwd := hok.wd
  have hf1 := ho.f1
  have HX := Lib.hid hx
  have HC := Lib.hid hc
  clear hok ho hc
  unfold op8
  rcases hform with ⟨hk, hd, hb, ha, c1, c2⟩ | ⟨hk, hb, ha, -, -, -⟩ | ⟨hk, hb, ha, -, -, -, hd, c1, c2⟩ | ⟨hk, hb, ha⟩ | ⟨hk, -, -⟩ | ⟨hk, hd, c1, c2⟩ | ⟨hk, c1, c2⟩
  · obtain ⟨K, hK⟩ : ∃ K : Nat, gi o 6 = (K : Int) + 1 := ⟨(gi o 6 - 1).toNat, by omega⟩
    have hKl : K < m.cr.length := by omega
    have hK3 : (K : Int) ≤ 3 := by omega
    have hK0 : (0 : Int) ≤ (K : Int) := by omega
    have hK4 : (K : Int) < 4 := by omega
    have hwr : IntKind.i64.wrap (K : Int) = (K : Int) := IntWalk.i64_in _ (by omega)
    have HCE := Lib.hid (car_eq (m := m) hK)
    have hct := hcs (gc m.cr K) (by rw [gc_eq hKl]; exact List.getElem_mem hKl)
    obtain ⟨p, of, cap, rfl, hpl, k0, k1⟩ := HC.out.at_ K hKl
    obtain ⟨⟨-, g1, -, -, g4, -, -⟩, -, -⟩ := box7 HX.out
    obtain ⟨ct0, ct1⟩ : -3 ≤ (gc m.cr K).2 ∧ (gc m.cr K).2 ≤ 27 := by
      simp only [crOk, Bool.and_eq_true, inR_iff] at hct; have := hct.1; omega
    obtain ⟨x0, x1⟩ := plc_bd (b := gi o 2) (a := gi o 3) (r := m.rk) (by omega) hrk
    have HPL := Lib.hid (fun W => iplace_any (gi o 2) (gi o 3) m.rk W (by omega) hrk)
    have HT : Hid (cfB m o = ((gc m.cr K).1 && ((decide (gi o 1 = 1) && decide ((gc m.cr K).2 ≤ plc (gi o 2) (gi o 3) m.rk)) || (decide (gi o 1 = -1) && decide (plc (gi o 2) (gi o 3) m.rk + 1 ≤ (gc m.cr K).2))))) := Lib.hid (by unfold cfB; rw [if_neg (by omega), if_neg (by omega), if_neg (by omega), HCE.out])
    have e4 : (gi o 0 == 4) = false := by simp; omega
    have e6 : (gi o 0 == 6) = false := by simp; omega
    have e7 : (gi o 0 == 7) = false := by simp; omega
    have e8 : (gi o 0 == 8) = false := by simp; omega
    have e9 : (gi o 0 == 9) = false := by simp; omega
    clear hcs hrk hwd hf1 hct HC HX HCE ha hb hk
    rw [hK]
    clear hK c1 c2
    generalize (gc m.cr K).1 = ca at *
    generalize (gc m.cr K).2 = ct at *
    generalize plc (gi o 2) (gi o 3) m.rk = X at *
    have HK1 := Lib.hid (fun (w' : World) (q : Below w.heap.size w w') => show w'.cell? ⟨g, 1, none⟩ = some (.int .i64 m.rk) ∧ w'.cell? ⟨g, 4, none⟩ = some (.slice (some ⟨p, of, none⟩) m.cr.length cap) ∧ w'.cell? ⟨p, of + K * 2, none⟩ = some (.bool ca) ∧ w'.cell? ⟨p, of + K * 2 + 1, none⟩ = some (.int .i64 ct) from
      ⟨by rw [q.cell hgl]; exact g1, by rw [q.cell hgl]; exact g4, by rw [q.cell hpl]; exact k0, by rw [q.cell hpl]; exact k1⟩)
    have hx1 := alloc_at_ w (.cells #[.int .i64 (gi o 0), .int .i64 (gi o 1), .int .i64 (gi o 2), .int .i64 (gi o 3), .int .i64 (gi o 4), .int .i64 (gi o 5), .int .i64 ((K : Int) + 1), .int .i64 (gi o 7)] 38)
    have hb1 := al1 w (.cells #[.int .i64 (gi o 0), .int .i64 (gi o 1), .int .i64 (gi o 2), .int .i64 (gi o 3), .int .i64 (gi o 4), .int .i64 (gi o 5), .int .i64 ((K : Int) + 1), .int .i64 (gi o 7)] 38)
    have hz1 : (w.alloc (.cells #[.int .i64 (gi o 0), .int .i64 (gi o 1), .int .i64 (gi o 2), .int .i64 (gi o 3), .int .i64 (gi o 4), .int .i64 (gi o 5), .int .i64 ((K : Int) + 1), .int .i64 (gi o 7)] 38)).heap.size = w.heap.size + 1 := by simp
    have HX1 := Lib.hid hx1
    have HB1 := Lib.hid hb1
    have HZ1 := Lib.hid hz1
    clear hx1 hb1 hz1 g1 g4 k0 k1 hx
    go_enter Tryz.func129, Tryz.ntmps129
    go_wp2_with fail
    have hx1 := HX1.out
    have hb1 := HB1.out
    clear HX1 HB1 HZ1
    generalize w.alloc (.cells #[.int .i64 (gi o 0), .int .i64 (gi o 1), .int .i64 (gi o 2), .int .i64 (gi o 3), .int .i64 (gi o 4), .int .i64 (gi o 5), .int .i64 ((K : Int) + 1), .int .i64 (gi o 7)] 38) = w1 at *
    have HB1 := Lib.hid hb1
    have HX1 := Lib.hid hx1
    have HK10 := Lib.hid (fun (w' : World) (q : Below w1.heap.size w1 w') => show w'.cell? ⟨w.heap.size, 6, none⟩ = some (.int .i64 ((K : Int) + 1)) ∧ w'.cell? ⟨g, 4, none⟩ = some (.slice (some ⟨p, of, none⟩) m.cr.length cap) ∧ w'.cell? ⟨p, of + K * 2, none⟩ = some (.bool ca) ∧ w'.cell? ⟨p, of + K * 2 + 1, none⟩ = some (.int .i64 ct) from
      ⟨by rw [q.cell (heap_lt HX1.out)]; exact (box8 HX1.out).1.2.2.2.2.2.2.1, (HK1.out w' (HB1.out.trans (q.mono HB1.out.size))).2⟩)
    clear hx1 hb1
    refine wp_region_z (fun w' => w'.cell? ⟨w.heap.size, 6, none⟩ = some (.int .i64 ((K : Int) + 1)) ∧ w'.cell? ⟨g, 4, none⟩ = some (.slice (some ⟨p, of, none⟩) m.cr.length cap) ∧ w'.cell? ⟨p, of + K * 2, none⟩ = some (.bool ca) ∧ w'.cell? ⟨p, of + K * 2 + 1, none⟩ = some (.int .i64 ct)) 10 (by kernel_rfl) (HK10.out _ (Below.refl _ _).drew) (fun hH0 => ?_)
    refine wpZ_take 0 12 (u := ?_) rfl (by kernel_rfl) (fun _ _ _ h => h) ⟨by rfl, ?_⟩ hH0 ?_
    rotate_left
    · intro w hSw; (try dsimp only at hSw); go_simp; (first | done | with_reducible rfl)
    try simp only [Act.put, sb1, sb2, sb3]
    refine wpZ_take 1 12 (u := ?_) rfl (by kernel_rfl) (fun _ _ _ h => h) ⟨by rfl, ?_⟩ hH0 ?_
    rotate_left
    · intro w hSw; (try dsimp only at hSw); go_simp; (first | done | with_reducible rfl)
    try simp only [Act.put, sb1, sb2, sb3]
    refine wpZ_take 2 12 (u := ?_) rfl (by kernel_rfl) (fun _ _ _ h => h) ⟨by rfl, ?_⟩ hH0 ?_
    rotate_left
    · intro w hSw; (try dsimp only at hSw); go_simp; (first | done | with_reducible rfl)
    try simp only [Act.put, sb1, sb2, sb3]
    refine wpZ_take 3 12 (u := ?_) rfl (by kernel_rfl) (fun _ _ _ h => h) ⟨by rfl, ?_⟩ hH0 ?_
    rotate_left
    · intro w hSw; (try dsimp only at hSw); go_simp; (first | done | with_reducible rfl)
    try simp only [Act.put, sb1, sb2, sb3]
    refine wpZ_take 4 12 (u := ?_) rfl (by kernel_rfl) (fun _ _ _ h => h) ⟨by rfl, ?_⟩ hH0 ?_
    rotate_left
    · intro w hSw; (try dsimp only at hSw); go_simp; (first | done | with_reducible rfl)
    try simp only [Act.put, sb1, sb2, sb3]
    refine wpZ_take 5 12 (u := ?_) rfl (by kernel_rfl) (fun _ _ _ h => h) ⟨by rfl, ?_⟩ hH0 ?_
    rotate_left
    · intro w hSw; (try dsimp only at hSw); go_simp; (first | done | with_reducible rfl)
    try simp only [Act.put, sb1, sb2, sb3]
    refine wpZ_take 6 12 (u := ?_) rfl (by kernel_rfl) (fun _ _ _ h => h) ⟨by rfl, ?_⟩ hH0 ?_
    rotate_left
    · intro w hSw; (try dsimp only at hSw); go_simp; (first | done | with_reducible rfl)
    try simp only [Act.put, sb1, sb2, sb3]
    refine wpZ_take 7 12 (u := ?_) rfl (by kernel_rfl) (fun _ _ _ h => h) ⟨by rfl, ?_⟩ hH0 ?_
    rotate_left
    · intro w hSw; (try dsimp only at hSw); go_simp; (first | done | with_reducible rfl)
    try simp only [Act.put, sb1, sb2, sb3]
    refine wpZ_take 8 12 (u := ?_) rfl (by kernel_rfl) (fun _ _ _ h => h) ⟨by rfl, ?_⟩ hH0 ?_
    rotate_left
    · intro w hSw; (try dsimp only at hSw); go_simp; (first | done | with_reducible rfl)
    try simp only [Act.put, sb1, sb2, sb3]
    refine wpZ_only 9 rfl (by kernel_rfl) (by rfl) (fun K hK => ?_)
    go_simp
    refine hK.out _ _ ?_ (fun hH1 => ?_)
    · exact HK10.out _ (Below.trans (Below.refl _ _).drew (al1 w1.drew (.cells #[.bool false, .int .i64 0] 126)))
    clear hK K hH0
    try simp only [Act.put, sb1, sb2, sb3]
    refine wpZ_last rfl (by kernel_rfl) (by kernel_rfl) (by rfl) (fun K hK => ?_)
    have hx2 := alloc_at_ w1.drew (.cells #[.bool false, .int .i64 0] 126)
    have hb2 : Below w1.heap.size w1 (w1.drew.alloc (.cells #[.bool false, .int .i64 0] 126)) := Below.trans (Below.refl _ _).drew (al1 w1.drew _)
    obtain ⟨-, -, yf0, yf1, -⟩ := box2 hx2
    go_simp
    refine hK.out _ _ ?_
    clear hK K hH1
    clear hx2 hb2 yf0 yf1
    have hx2 : (w1.alloc (.cells #[.bool ca, .int .i64 ct] 126)).drew.heap[w1.heap.size]? = some (.cells #[.bool ca, .int .i64 ct] 126) := alloc_at_ w1 _
    have hb2' : Below w1.heap.size w1 (w1.alloc (.cells #[.bool ca, .int .i64 ct] 126)).drew := (al1 w1 _).drew
    generalize (w1.alloc (.cells #[.bool ca, .int .i64 ct] 126)).drew = w2 at *
    have HB2 := Lib.hid (HB1.out.trans (hb2'.mono HB1.out.size))
    have HX2 := Lib.hid hx2
    have HY2 := Lib.hid ((hb2'.block _ (heap_lt HX1.out)).trans HX1.out)
    have hz2 := hb2'.size
    clear hx2 hb2'
    have HK11 := Lib.hid (fun (w' : World) (q : Below w2.heap.size w2 w') => show w'.cell? ⟨w.heap.size, 2, none⟩ = some (.int .i64 (gi o 2)) ∧ w'.cell? ⟨w.heap.size, 3, none⟩ = some (.int .i64 (gi o 3)) ∧ w'.cell? ⟨g, 1, none⟩ = some (.int .i64 m.rk) from
      ⟨by rw [q.cell (heap_lt HY2.out)]; exact (box8 HY2.out).1.2.2.1, by rw [q.cell (heap_lt HY2.out)]; exact (box8 HY2.out).1.2.2.2.1, (HK1.out w' (HB2.out.trans (q.mono HB2.out.size))).1⟩)
    go_wp2_with fail
    refine wp_region_z (fun w' => w'.cell? ⟨w.heap.size, 2, none⟩ = some (.int .i64 (gi o 2)) ∧ w'.cell? ⟨w.heap.size, 3, none⟩ = some (.int .i64 (gi o 3)) ∧ w'.cell? ⟨g, 1, none⟩ = some (.int .i64 m.rk)) 7 (by kernel_rfl) (HK11.out _ (Below.refl _ _).drew) (fun hH0 => ?_)
    refine wpZ_take 0 9 (u := ?_) rfl (by kernel_rfl) (fun _ _ _ h => h) ⟨by rfl, ?_⟩ hH0 ?_
    rotate_left
    · intro w hSw; (try dsimp only at hSw); go_simp; (first | done | with_reducible rfl)
    try simp only [Act.put, sb1, sb2, sb3]
    refine wpZ_take 1 9 (u := ?_) rfl (by kernel_rfl) (fun _ _ _ h => h) ⟨by rfl, ?_⟩ hH0 ?_
    rotate_left
    · intro w hSw; (try dsimp only at hSw); go_simp; (first | done | with_reducible rfl)
    try simp only [Act.put, sb1, sb2, sb3]
    refine wpZ_take 2 9 (u := ?_) rfl (by kernel_rfl) (fun _ _ _ h => h) ⟨by rfl, ?_⟩ hH0 ?_
    rotate_left
    · intro w hSw; (try dsimp only at hSw); go_simp; (first | done | with_reducible rfl)
    try simp only [Act.put, sb1, sb2, sb3]
    refine wpZ_take 3 9 (u := ?_) rfl (by kernel_rfl) (fun _ _ _ h => h) ⟨by rfl, ?_⟩ hH0 ?_
    rotate_left
    · intro w hSw; (try dsimp only at hSw); go_simp; (first | done | with_reducible rfl)
    try simp only [Act.put, sb1, sb2, sb3]
    refine wpZ_take 4 9 (u := ?_) rfl (by kernel_rfl) (fun _ _ _ h => h) ⟨by rfl, ?_⟩ hH0 ?_
    rotate_left
    · intro w hSw; (try dsimp only at hSw); go_simp; (first | done | with_reducible rfl)
    try simp only [Act.put, sb1, sb2, sb3]
    refine wpZ_take 5 9 (u := ?_) rfl (by kernel_rfl) (fun _ _ _ h => h) ⟨by rfl, ?_⟩ hH0 ?_
    rotate_left
    · intro w hSw; (try dsimp only at hSw); go_simp; (first | done | with_reducible rfl)
    try simp only [Act.put, sb1, sb2, sb3]
    refine wpZ_only 6 rfl (by kernel_rfl) (by rfl) (fun K hK => ?_)
    go_simp
    go_at_call 96
    refine (HPL.out _).mono ?_
    rintro e w3 ⟨rfl, hb3⟩
    have hr3 : Below w2.heap.size w2 w3 := Below.trans (Below.refl _ _).drew (hb3.mono (Nat.le_refl _))
    go_wp2_with fail
    refine hK.out _ _ ?_ (fun hH1 => ?_)
    · exact HK11.out _ hr3
    clear hK K hH0
    try simp only [Act.put, sb1, sb2, sb3]
    refine wpZ_last rfl (by kernel_rfl) (by kernel_rfl) (by rfl) (fun K hK => ?_)
    go_simp
    refine hK.out _ _ ?_
    clear hK K hH1
    have HB3 := Lib.hid (HB2.out.trans (hr3.mono HB2.out.size))
    have o1 := (box8 ((hr3.block _ (heap_lt HY2.out)).trans HY2.out)).1.2.1
    obtain ⟨d0, d1, -, -, -⟩ := box2 ((hr3.block _ (heap_lt HX2.out)).trans HX2.out)
    clear hr3 hb3 HK11 HK10 HX2 HY2 HX1
    cases ca
    · go_wp2
      go_ret
      exact ⟨ret_bool (by rw [HT.out]; rfl), HB3.out⟩
    · rcases hd with hd | hd
      · have HD := Lib.hid hd
        rw [hd] at o1
        clear hd
        by_cases hcc : ct ≤ X
        · have HQ := Lib.hid hcc
          go_wp2
          go_ret
          exact ⟨ret_bool (by rw [HT.out, HD.out]; simp [HQ.out]), HB3.out⟩
        · have HQ := Lib.hid hcc
          go_wp2
          go_ret
          exact ⟨ret_bool (by rw [HT.out, HD.out]; simp [HQ.out]), HB3.out⟩
      · have HD := Lib.hid hd
        rw [hd] at o1
        clear hd
        by_cases hcc : X + 1 ≤ ct
        · have HQ := Lib.hid hcc
          go_wp2
          go_ret
          exact ⟨ret_bool (by rw [HT.out, HD.out]; simp [HQ.out]), HB3.out⟩
        · have HQ := Lib.hid hcc
          go_wp2
          go_ret
          exact ⟨ret_bool (by rw [HT.out, HD.out]; simp [HQ.out]), HB3.out⟩
  · have HT : Hid (cfB m o = true) := Lib.hid (by unfold cfB; rw [if_pos (by omega)])
    clear hcs hrk hwd hf1 hcr hx
    rw [hk]
    clear hk
    go_enter Tryz.func129, Tryz.ntmps129
    go_wp2
    go_ret
    exact ⟨ret_bool HT.out.symm, al1 w _⟩
  · obtain ⟨K, hK⟩ : ∃ K : Nat, gi o 6 = (K : Int) + 1 := ⟨(gi o 6 - 1).toNat, by omega⟩
    have hKl : K < m.cr.length := by omega
    have hK3 : (K : Int) ≤ 3 := by omega
    have hK0 : (0 : Int) ≤ (K : Int) := by omega
    have hK4 : (K : Int) < 4 := by omega
    have hwr : IntKind.i64.wrap (K : Int) = (K : Int) := IntWalk.i64_in _ (by omega)
    have HCE := Lib.hid (car_eq (m := m) hK)
    have hct := hcs (gc m.cr K) (by rw [gc_eq hKl]; exact List.getElem_mem hKl)
    obtain ⟨p, of, cap, rfl, hpl, k0, k1⟩ := HC.out.at_ K hKl
    obtain ⟨⟨-, g1, -, -, g4, -, -⟩, -, -⟩ := box7 HX.out
    obtain ⟨ct0, ct1⟩ : -3 ≤ (gc m.cr K).2 ∧ (gc m.cr K).2 ≤ 27 := by
      simp only [crOk, Bool.and_eq_true, inR_iff] at hct; have := hct.1; omega
    obtain ⟨x0, x1⟩ := plc_bd (b := gi o 2) (a := gi o 3) (r := m.rk) (by omega) hrk
    have HPL := Lib.hid (fun W => iplace_any (gi o 2) (gi o 3) m.rk W (by omega) hrk)
    have HT : Hid (cfB m o = ((gc m.cr K).1 && ((decide (gi o 1 = 1) && decide ((gc m.cr K).2 ≤ plc (gi o 2) (gi o 3) m.rk)) || (decide (gi o 1 = -1) && decide (plc (gi o 2) (gi o 3) m.rk + 1 ≤ (gc m.cr K).2))))) := Lib.hid (by unfold cfB; rw [if_neg (by omega), if_neg (by omega), if_neg (by omega), HCE.out])
    have e4 : (gi o 0 == 4) = false := by simp; omega
    have e6 : (gi o 0 == 6) = false := by simp; omega
    have e7 : (gi o 0 == 7) = false := by simp; omega
    have e8 : (gi o 0 == 8) = false := by simp; omega
    have e9 : (gi o 0 == 9) = false := by simp; omega
    clear hcs hrk hwd hf1 hct HC HX HCE ha hb hk
    rw [hK]
    clear hK c1 c2
    generalize (gc m.cr K).1 = ca at *
    generalize (gc m.cr K).2 = ct at *
    generalize plc (gi o 2) (gi o 3) m.rk = X at *
    have HK1 := Lib.hid (fun (w' : World) (q : Below w.heap.size w w') => show w'.cell? ⟨g, 1, none⟩ = some (.int .i64 m.rk) ∧ w'.cell? ⟨g, 4, none⟩ = some (.slice (some ⟨p, of, none⟩) m.cr.length cap) ∧ w'.cell? ⟨p, of + K * 2, none⟩ = some (.bool ca) ∧ w'.cell? ⟨p, of + K * 2 + 1, none⟩ = some (.int .i64 ct) from
      ⟨by rw [q.cell hgl]; exact g1, by rw [q.cell hgl]; exact g4, by rw [q.cell hpl]; exact k0, by rw [q.cell hpl]; exact k1⟩)
    have hx1 := alloc_at_ w (.cells #[.int .i64 (gi o 0), .int .i64 (gi o 1), .int .i64 (gi o 2), .int .i64 (gi o 3), .int .i64 (gi o 4), .int .i64 (gi o 5), .int .i64 ((K : Int) + 1), .int .i64 (gi o 7)] 38)
    have hb1 := al1 w (.cells #[.int .i64 (gi o 0), .int .i64 (gi o 1), .int .i64 (gi o 2), .int .i64 (gi o 3), .int .i64 (gi o 4), .int .i64 (gi o 5), .int .i64 ((K : Int) + 1), .int .i64 (gi o 7)] 38)
    have hz1 : (w.alloc (.cells #[.int .i64 (gi o 0), .int .i64 (gi o 1), .int .i64 (gi o 2), .int .i64 (gi o 3), .int .i64 (gi o 4), .int .i64 (gi o 5), .int .i64 ((K : Int) + 1), .int .i64 (gi o 7)] 38)).heap.size = w.heap.size + 1 := by simp
    have HX1 := Lib.hid hx1
    have HB1 := Lib.hid hb1
    have HZ1 := Lib.hid hz1
    clear hx1 hb1 hz1 g1 g4 k0 k1 hx
    go_enter Tryz.func129, Tryz.ntmps129
    go_wp2_with fail
    have hx1 := HX1.out
    have hb1 := HB1.out
    clear HX1 HB1 HZ1
    generalize w.alloc (.cells #[.int .i64 (gi o 0), .int .i64 (gi o 1), .int .i64 (gi o 2), .int .i64 (gi o 3), .int .i64 (gi o 4), .int .i64 (gi o 5), .int .i64 ((K : Int) + 1), .int .i64 (gi o 7)] 38) = w1 at *
    have HB1 := Lib.hid hb1
    have HX1 := Lib.hid hx1
    have HK10 := Lib.hid (fun (w' : World) (q : Below w1.heap.size w1 w') => show w'.cell? ⟨w.heap.size, 6, none⟩ = some (.int .i64 ((K : Int) + 1)) ∧ w'.cell? ⟨g, 4, none⟩ = some (.slice (some ⟨p, of, none⟩) m.cr.length cap) ∧ w'.cell? ⟨p, of + K * 2, none⟩ = some (.bool ca) ∧ w'.cell? ⟨p, of + K * 2 + 1, none⟩ = some (.int .i64 ct) from
      ⟨by rw [q.cell (heap_lt HX1.out)]; exact (box8 HX1.out).1.2.2.2.2.2.2.1, (HK1.out w' (HB1.out.trans (q.mono HB1.out.size))).2⟩)
    clear hx1 hb1
    refine wp_region_z (fun w' => w'.cell? ⟨w.heap.size, 6, none⟩ = some (.int .i64 ((K : Int) + 1)) ∧ w'.cell? ⟨g, 4, none⟩ = some (.slice (some ⟨p, of, none⟩) m.cr.length cap) ∧ w'.cell? ⟨p, of + K * 2, none⟩ = some (.bool ca) ∧ w'.cell? ⟨p, of + K * 2 + 1, none⟩ = some (.int .i64 ct)) 10 (by kernel_rfl) (HK10.out _ (Below.refl _ _).drew) (fun hH0 => ?_)
    refine wpZ_take 0 12 (u := ?_) rfl (by kernel_rfl) (fun _ _ _ h => h) ⟨by rfl, ?_⟩ hH0 ?_
    rotate_left
    · intro w hSw; (try dsimp only at hSw); go_simp; (first | done | with_reducible rfl)
    try simp only [Act.put, sb1, sb2, sb3]
    refine wpZ_take 1 12 (u := ?_) rfl (by kernel_rfl) (fun _ _ _ h => h) ⟨by rfl, ?_⟩ hH0 ?_
    rotate_left
    · intro w hSw; (try dsimp only at hSw); go_simp; (first | done | with_reducible rfl)
    try simp only [Act.put, sb1, sb2, sb3]
    refine wpZ_take 2 12 (u := ?_) rfl (by kernel_rfl) (fun _ _ _ h => h) ⟨by rfl, ?_⟩ hH0 ?_
    rotate_left
    · intro w hSw; (try dsimp only at hSw); go_simp; (first | done | with_reducible rfl)
    try simp only [Act.put, sb1, sb2, sb3]
    refine wpZ_take 3 12 (u := ?_) rfl (by kernel_rfl) (fun _ _ _ h => h) ⟨by rfl, ?_⟩ hH0 ?_
    rotate_left
    · intro w hSw; (try dsimp only at hSw); go_simp; (first | done | with_reducible rfl)
    try simp only [Act.put, sb1, sb2, sb3]
    refine wpZ_take 4 12 (u := ?_) rfl (by kernel_rfl) (fun _ _ _ h => h) ⟨by rfl, ?_⟩ hH0 ?_
    rotate_left
    · intro w hSw; (try dsimp only at hSw); go_simp; (first | done | with_reducible rfl)
    try simp only [Act.put, sb1, sb2, sb3]
    refine wpZ_take 5 12 (u := ?_) rfl (by kernel_rfl) (fun _ _ _ h => h) ⟨by rfl, ?_⟩ hH0 ?_
    rotate_left
    · intro w hSw; (try dsimp only at hSw); go_simp; (first | done | with_reducible rfl)
    try simp only [Act.put, sb1, sb2, sb3]
    refine wpZ_take 6 12 (u := ?_) rfl (by kernel_rfl) (fun _ _ _ h => h) ⟨by rfl, ?_⟩ hH0 ?_
    rotate_left
    · intro w hSw; (try dsimp only at hSw); go_simp; (first | done | with_reducible rfl)
    try simp only [Act.put, sb1, sb2, sb3]
    refine wpZ_take 7 12 (u := ?_) rfl (by kernel_rfl) (fun _ _ _ h => h) ⟨by rfl, ?_⟩ hH0 ?_
    rotate_left
    · intro w hSw; (try dsimp only at hSw); go_simp; (first | done | with_reducible rfl)
    try simp only [Act.put, sb1, sb2, sb3]
    refine wpZ_take 8 12 (u := ?_) rfl (by kernel_rfl) (fun _ _ _ h => h) ⟨by rfl, ?_⟩ hH0 ?_
    rotate_left
    · intro w hSw; (try dsimp only at hSw); go_simp; (first | done | with_reducible rfl)
    try simp only [Act.put, sb1, sb2, sb3]
    refine wpZ_only 9 rfl (by kernel_rfl) (by rfl) (fun K hK => ?_)
    go_simp
    refine hK.out _ _ ?_ (fun hH1 => ?_)
    · exact HK10.out _ (Below.trans (Below.refl _ _).drew (al1 w1.drew (.cells #[.bool false, .int .i64 0] 126)))
    clear hK K hH0
    try simp only [Act.put, sb1, sb2, sb3]
    refine wpZ_last rfl (by kernel_rfl) (by kernel_rfl) (by rfl) (fun K hK => ?_)
    have hx2 := alloc_at_ w1.drew (.cells #[.bool false, .int .i64 0] 126)
    have hb2 : Below w1.heap.size w1 (w1.drew.alloc (.cells #[.bool false, .int .i64 0] 126)) := Below.trans (Below.refl _ _).drew (al1 w1.drew _)
    obtain ⟨-, -, yf0, yf1, -⟩ := box2 hx2
    go_simp
    refine hK.out _ _ ?_
    clear hK K hH1
    clear hx2 hb2 yf0 yf1
    have hx2 : (w1.alloc (.cells #[.bool ca, .int .i64 ct] 126)).drew.heap[w1.heap.size]? = some (.cells #[.bool ca, .int .i64 ct] 126) := alloc_at_ w1 _
    have hb2' : Below w1.heap.size w1 (w1.alloc (.cells #[.bool ca, .int .i64 ct] 126)).drew := (al1 w1 _).drew
    generalize (w1.alloc (.cells #[.bool ca, .int .i64 ct] 126)).drew = w2 at *
    have HB2 := Lib.hid (HB1.out.trans (hb2'.mono HB1.out.size))
    have HX2 := Lib.hid hx2
    have HY2 := Lib.hid ((hb2'.block _ (heap_lt HX1.out)).trans HX1.out)
    have hz2 := hb2'.size
    clear hx2 hb2'
    have HK11 := Lib.hid (fun (w' : World) (q : Below w2.heap.size w2 w') => show w'.cell? ⟨w.heap.size, 2, none⟩ = some (.int .i64 (gi o 2)) ∧ w'.cell? ⟨w.heap.size, 3, none⟩ = some (.int .i64 (gi o 3)) ∧ w'.cell? ⟨g, 1, none⟩ = some (.int .i64 m.rk) from
      ⟨by rw [q.cell (heap_lt HY2.out)]; exact (box8 HY2.out).1.2.2.1, by rw [q.cell (heap_lt HY2.out)]; exact (box8 HY2.out).1.2.2.2.1, (HK1.out w' (HB2.out.trans (q.mono HB2.out.size))).1⟩)
    go_wp2_with fail
    refine wp_region_z (fun w' => w'.cell? ⟨w.heap.size, 2, none⟩ = some (.int .i64 (gi o 2)) ∧ w'.cell? ⟨w.heap.size, 3, none⟩ = some (.int .i64 (gi o 3)) ∧ w'.cell? ⟨g, 1, none⟩ = some (.int .i64 m.rk)) 7 (by kernel_rfl) (HK11.out _ (Below.refl _ _).drew) (fun hH0 => ?_)
    refine wpZ_take 0 9 (u := ?_) rfl (by kernel_rfl) (fun _ _ _ h => h) ⟨by rfl, ?_⟩ hH0 ?_
    rotate_left
    · intro w hSw; (try dsimp only at hSw); go_simp; (first | done | with_reducible rfl)
    try simp only [Act.put, sb1, sb2, sb3]
    refine wpZ_take 1 9 (u := ?_) rfl (by kernel_rfl) (fun _ _ _ h => h) ⟨by rfl, ?_⟩ hH0 ?_
    rotate_left
    · intro w hSw; (try dsimp only at hSw); go_simp; (first | done | with_reducible rfl)
    try simp only [Act.put, sb1, sb2, sb3]
    refine wpZ_take 2 9 (u := ?_) rfl (by kernel_rfl) (fun _ _ _ h => h) ⟨by rfl, ?_⟩ hH0 ?_
    rotate_left
    · intro w hSw; (try dsimp only at hSw); go_simp; (first | done | with_reducible rfl)
    try simp only [Act.put, sb1, sb2, sb3]
    refine wpZ_take 3 9 (u := ?_) rfl (by kernel_rfl) (fun _ _ _ h => h) ⟨by rfl, ?_⟩ hH0 ?_
    rotate_left
    · intro w hSw; (try dsimp only at hSw); go_simp; (first | done | with_reducible rfl)
    try simp only [Act.put, sb1, sb2, sb3]
    refine wpZ_take 4 9 (u := ?_) rfl (by kernel_rfl) (fun _ _ _ h => h) ⟨by rfl, ?_⟩ hH0 ?_
    rotate_left
    · intro w hSw; (try dsimp only at hSw); go_simp; (first | done | with_reducible rfl)
    try simp only [Act.put, sb1, sb2, sb3]
    refine wpZ_take 5 9 (u := ?_) rfl (by kernel_rfl) (fun _ _ _ h => h) ⟨by rfl, ?_⟩ hH0 ?_
    rotate_left
    · intro w hSw; (try dsimp only at hSw); go_simp; (first | done | with_reducible rfl)
    try simp only [Act.put, sb1, sb2, sb3]
    refine wpZ_only 6 rfl (by kernel_rfl) (by rfl) (fun K hK => ?_)
    go_simp
    go_at_call 96
    refine (HPL.out _).mono ?_
    rintro e w3 ⟨rfl, hb3⟩
    have hr3 : Below w2.heap.size w2 w3 := Below.trans (Below.refl _ _).drew (hb3.mono (Nat.le_refl _))
    go_wp2_with fail
    refine hK.out _ _ ?_ (fun hH1 => ?_)
    · exact HK11.out _ hr3
    clear hK K hH0
    try simp only [Act.put, sb1, sb2, sb3]
    refine wpZ_last rfl (by kernel_rfl) (by kernel_rfl) (by rfl) (fun K hK => ?_)
    go_simp
    refine hK.out _ _ ?_
    clear hK K hH1
    have HB3 := Lib.hid (HB2.out.trans (hr3.mono HB2.out.size))
    have o1 := (box8 ((hr3.block _ (heap_lt HY2.out)).trans HY2.out)).1.2.1
    obtain ⟨d0, d1, -, -, -⟩ := box2 ((hr3.block _ (heap_lt HX2.out)).trans HX2.out)
    clear hr3 hb3 HK11 HK10 HX2 HY2 HX1
    cases ca
    · go_wp2
      go_ret
      exact ⟨ret_bool (by rw [HT.out]; rfl), HB3.out⟩
    · rcases hd with hd | hd
      · have HD := Lib.hid hd
        rw [hd] at o1
        clear hd
        by_cases hcc : ct ≤ X
        · have HQ := Lib.hid hcc
          go_wp2
          go_ret
          exact ⟨ret_bool (by rw [HT.out, HD.out]; simp [HQ.out]), HB3.out⟩
        · have HQ := Lib.hid hcc
          go_wp2
          go_ret
          exact ⟨ret_bool (by rw [HT.out, HD.out]; simp [HQ.out]), HB3.out⟩
      · have HD := Lib.hid hd
        rw [hd] at o1
        clear hd
        by_cases hcc : X + 1 ≤ ct
        · have HQ := Lib.hid hcc
          go_wp2
          go_ret
          exact ⟨ret_bool (by rw [HT.out, HD.out]; simp [HQ.out]), HB3.out⟩
        · have HQ := Lib.hid hcc
          go_wp2
          go_ret
          exact ⟨ret_bool (by rw [HT.out, HD.out]; simp [HQ.out]), HB3.out⟩
  · have HT : Hid (cfB m o = true) := Lib.hid (by unfold cfB; rw [if_pos (by omega)])
    clear hcs hrk hwd hf1 hcr hx
    rw [hk]
    clear hk
    go_enter Tryz.func129, Tryz.ntmps129
    go_wp2
    go_ret
    exact ⟨ret_bool HT.out.symm, al1 w _⟩
  · have HT : Hid (cfB m o = true) := Lib.hid (by unfold cfB; rw [if_pos (by omega)])
    clear hcs hrk hwd hf1 hcr hx
    rw [hk]
    clear hk
    go_enter Tryz.func129, Tryz.ntmps129
    go_wp2
    go_ret
    exact ⟨ret_bool HT.out.symm, al1 w _⟩
  · obtain ⟨K, hK⟩ : ∃ K : Nat, gi o 6 = (K : Int) + 1 := ⟨(gi o 6 - 1).toNat, by omega⟩
    have hKl : K < m.cr.length := by omega
    have hK3 : (K : Int) ≤ 3 := by omega
    have hK0 : (0 : Int) ≤ (K : Int) := by omega
    have hK4 : (K : Int) < 4 := by omega
    have hwr : IntKind.i64.wrap (K : Int) = (K : Int) := IntWalk.i64_in _ (by omega)
    have HCE := Lib.hid (car_eq (m := m) hK)
    have hct := hcs (gc m.cr K) (by rw [gc_eq hKl]; exact List.getElem_mem hKl)
    obtain ⟨p, of, cap, rfl, hpl, k0, k1⟩ := HC.out.at_ K hKl
    obtain ⟨⟨-, g1, -, -, g4, -, -⟩, -, -⟩ := box7 HX.out
    have HT : Hid (cfB m o = !(gc m.cr K).1) := Lib.hid (by unfold cfB; rw [if_neg (by omega), if_pos (by omega)]; rw [HCE.out])
    clear hcs hrk hwd hf1 hct hx g1 HC HX HCE
    rw [hk, hK]
    clear hk hK
    generalize (gc m.cr K).1 = ca at *
    go_enter Tryz.func129, Tryz.ntmps129
    go_wp2_with fail
    go_quiet (fail)
    go_wp2
    go_ret
    exact ⟨ret_bool HT.out.symm, below_drewN (al1 w _) _⟩
  · obtain ⟨K, hK⟩ : ∃ K : Nat, gi o 6 = (K : Int) + 1 := ⟨(gi o 6 - 1).toNat, by omega⟩
    have hKl : K < m.cr.length := by omega
    have hK3 : (K : Int) ≤ 3 := by omega
    have hK0 : (0 : Int) ≤ (K : Int) := by omega
    have hK4 : (K : Int) < 4 := by omega
    have hwr : IntKind.i64.wrap (K : Int) = (K : Int) := IntWalk.i64_in _ (by omega)
    have HCE := Lib.hid (car_eq (m := m) hK)
    have hct := hcs (gc m.cr K) (by rw [gc_eq hKl]; exact List.getElem_mem hKl)
    obtain ⟨p, of, cap, rfl, hpl, k0, k1⟩ := HC.out.at_ K hKl
    obtain ⟨⟨-, g1, -, -, g4, -, -⟩, -, -⟩ := box7 HX.out
    have HT : Hid (cfB m o = (gc m.cr K).1) := Lib.hid (by unfold cfB; rw [if_neg (by omega), if_neg (by omega), if_pos (by omega)]; rw [HCE.out])
    clear hcs hrk hwd hf1 hct hx g1 HC HX HCE
    rw [hk, hK]
    clear hk hK
    generalize (gc m.cr K).1 = ca at *
    go_enter Tryz.func129, Tryz.ntmps129
    go_wp2_with fail
    go_quiet (fail)
    go_wp2
    go_ret
    exact ⟨ret_bool HT.out.symm, below_drewN (al1 w _) _⟩
end Go.Proofs.YtgmppfhokfifgaaGreatDoor
/-
  Contract: the program's opCode. Printed by gen_opk.py.
-/
namespace Go.Proofs.YtgmppfhokfifgaaGreatDoor
set_option maxRecDepth 10000
open Go.RowKit

theorem opC_cf {m : Mac} {o : List Int} (h1 : gi o 3 < m.wd) (h2 : gi o 5 < m.wd) (h3 : cfB m o = false) : opC m o = 9 := by
  unfold opC; rw [if_neg (by omega), if_pos h3]
theorem opC_full {m : Mac} {o : List Int} (h1 : gi o 3 < m.wd) (h2 : gi o 5 < m.wd) (h3 : cfB m o = true) (h4 : mkB (gi o 0) = true) (h5 : m.lp.length = 300) : opC m o = 5 := by
  unfold opC; rw [if_neg (by omega), if_neg (by simp [h3]), if_pos ⟨h4, h5⟩]
theorem opC_tuck {m : Mac} {o : List Int} (h1 : gi o 3 < m.wd) (h2 : gi o 5 < m.wd) (h3 : cfB m o = true) (h5 : m.lp.length ≠ 300) (h6 : gi o 0 = 2) (h7 : (m.mine o).length = 4) : opC m o = 5 := by
  unfold opC; rw [if_neg (by omega), if_neg (by simp [h3]), if_neg (fun q => h5 q.2), if_pos ⟨h6, h7⟩]
theorem opC_drop {m : Mac} {o : List Int} (h1 : gi o 3 < m.wd) (h2 : gi o 5 < m.wd) (h3 : cfB m o = true) (h6 : gi o 0 = 6) (h7 : (m.mine o).length = 0) : opC m o = 7 := by
  unfold opC; rw [if_neg (by omega), if_neg (by simp [h3]), if_neg (fun q => by have := q.1; rw [h6] at this; revert this; decide), if_neg (by omega), if_pos ⟨h6, h7⟩]
theorem opC_zero {m : Mac} {o : List Int} (h1 : gi o 3 < m.wd) (h2 : gi o 5 < m.wd) (h3 : cfB m o = true) (h5 : ¬ (mkB (gi o 0) = true ∧ m.lp.length = 300)) (h6 : ¬ (gi o 0 = 2 ∧ (m.mine o).length = 4)) (h7 : ¬ (gi o 0 = 6 ∧ (m.mine o).length = 0)) (h8 : gi o 0 ≠ 4 ∧ gi o 0 ≠ 5) : opC m o = 0 := by
  unfold opC; rw [if_neg (by omega), if_neg (by simp [h3]), if_neg h5, if_neg h6, if_neg h7, if_pos h8]
theorem opC_mv {m : Mac} {o : List Int} (h1 : gi o 3 < m.wd) (h2 : gi o 5 < m.wd) (h3 : cfB m o = true) (h5 : ¬ (mkB (gi o 0) = true ∧ m.lp.length = 300)) (h8 : gi o 0 = 4 ∨ gi o 0 = 5) : opC m o = mvC m o := by
  unfold opC; rw [if_neg (by omega), if_neg (by simp [h3]), if_neg h5, if_neg (by omega), if_neg (by omega), if_neg (by omega)]
theorem mvC_rack {m : Mac} {o : List Int} (h : ¬ (0 ≤ faceM m o ∧ faceM m o ≤ m.wd - 1 ∧ 3 - gi o 2 = gi o 4 ∧ faceM m o = gi o 5)) : mvC m o = 8 := by unfold mvC; rw [if_pos h]
theorem mvC_empty {m : Mac} {o : List Int} (h : 0 ≤ faceM m o ∧ faceM m o ≤ m.wd - 1 ∧ 3 - gi o 2 = gi o 4 ∧ faceM m o = gi o 5) (h2 : (m.mine o).length = 0) : mvC m o = 7 := by unfold mvC; rw [if_neg (fun q => q h), if_pos h2]
theorem mvC_full {m : Mac} {o : List Int} (h : 0 ≤ faceM m o ∧ faceM m o ≤ m.wd - 1 ∧ 3 - gi o 2 = gi o 4 ∧ faceM m o = gi o 5) (h2 : (m.mine o).length ≠ 0) (h3 : 4 < (m.mine o).length + (m.other o).length) : mvC m o = 5 := by unfold mvC; rw [if_neg (fun q => q h), if_neg h2, if_pos h3]
theorem mvC_ok {m : Mac} {o : List Int} (h : 0 ≤ faceM m o ∧ faceM m o ≤ m.wd - 1 ∧ 3 - gi o 2 = gi o 4 ∧ faceM m o = gi o 5) (h2 : (m.mine o).length ≠ 0) (h3 : ¬ 4 < (m.mine o).length + (m.other o).length) : mvC m o = 0 := by unfold mvC; rw [if_neg (fun q => q h), if_neg h2, if_neg h3]
theorem op_at {o : List Int} (h : opB o = true) : 0 ≤ gi o 3 ∧ gi o 3 ≤ 23 ∧ 0 ≤ gi o 5 ∧ gi o 5 ≤ 23 := by
  unfold opB at h
  generalize gi o 0 = k at *
  generalize gi o 1 = d at *
  generalize gi o 2 = fb at *
  generalize gi o 3 = fa at *
  generalize gi o 4 = tb at *
  generalize gi o 5 = ta at *
  generalize gi o 6 = c at *
  generalize gi o 7 = r at *
  unfold vOp at h
  repeat' split at h
  all_goals (simp only [Bool.and_eq_true, pairB, ndlB, bedB, dirB, inR_iff, beq_iff_eq, Bool.or_eq_true, bne_iff_ne, Bool.false_eq_true] at h; try omega)
theorem SlM.rowA {w : World} {B : Nat} {f b c l d : Value} {m : Mac} (h : SlM w B f b c l d m) (hB : B ≤ w.heap.size) (ho : OkM m) {bed a : Int} (hn : m.ndl bed a) :
    ∃ p o cap A cu, (if bed = 2 then b else f) = .slice (some ⟨p, o, none⟩) (m.sd bed).length cap ∧ (m.on bed a).length ≤ 4 ∧ 0 ≤ a ∧ a < ((m.sd bed).length : Int) ∧
      ∀ w', Below w.heap.size w w' → w'.cell? ⟨p, o + a.toNat, none⟩ = some (.slice A (m.on bed a).length cu) ∧ Sl w' B (.slice A (m.on bed a).length cu) (m.on bed a) := by
  have hs := ho.sdlt hn
  obtain ⟨p, o, n, cap, u, e1, e2, hu, hsu⟩ := h.at_ hs
  obtain ⟨A, cu, rfl, -⟩ := id hsu
  subst e2
  refine ⟨p, o, cap, A, cu, e1, on_len ho hn, hn.2.1, by have := hn.2.1; omega, fun w' hb => ⟨?_, hsu.below hb hB⟩⟩
  rw [hb.cell (block_lt_of_cell hu)]; exact hu
/-- on a needle of the machine: where its row lies, and the row. -/
theorem on_row {w : World} {g B : Nat} {m : Mac} {f b c l d : Value} {bed a : Int} (hx : w.heap[g]? = some (.cells #[.int .i64 m.wd, .int .i64 m.rk, f, b, c, l, d] 75)) (hm : SlM w B f b c l d m) (hB : B ≤ w.heap.size) (hok : OkM m) (hn : m.ndl bed a) :
    ∃ p o A cu, (m.on bed a).length ≤ 4 ∧ ∀ w', Below w.heap.size w w' → w'.cell? ⟨p, o, none⟩ = some (.slice A (m.on bed a).length cu) ∧ Sl w' B (.slice A (m.on bed a).length cu) (m.on bed a) ∧
      Calls Tryz.prog 91 #[.pointer (some ⟨g, 0, none⟩), .agg #[.int .i64 bed, .int .i64 a]] w' fun e w2 => e = .returned (.pointer (some ⟨p, o, none⟩)) ∧ Below w'.heap.size w' w2 := by
  obtain ⟨p, o, cap, A, cu, hs, hl, h0, h1, hr⟩ := hm.rowA hB hok hn
  refine ⟨p, o + a.toNat, A, cu, hl, fun w' hb => ⟨(hr w' hb).1, (hr w' hb).2, ?_⟩⟩
  exact on_any (keep_fwd hb hx) hn.1 (by omega) (by omega) hs
theorem mk_val {k : Int} {b : Bool} (hb : mkB k = b) (w : World) : Calls Tryz.prog 95 #[.int .i64 k] w fun e w' => e = .returned (.bool b) ∧ w = w' := by rw [← hb]; exact makesLoop_any k w
set_option maxRecDepth 100000 in
set_option maxHeartbeats 6400000 in
theorem opCode_any {w : World} {g : Nat} {m : Mac} {o : List Int} {f b c l d : Value} {B : Nat} (hx : w.heap[g]? = some (.cells #[.int .i64 m.wd, .int .i64 m.rk, f, b, c, l, d] 75)) (hm : SlM w B f b c l d m) (hB : B ≤ w.heap.size) (hok : OkM m) (ho : opB o = true) :
    Calls Tryz.prog 90 #[.pointer (some ⟨g, 0, none⟩), op8 o] w fun e w' => e = .returned (.int .i64 (opC m o)) ∧ Below w.heap.size w w' := by
  have hgl := heap_lt hx
  obtain ⟨q0, q1, q2, q3⟩ := op_at ho
  obtain ⟨lA, lc, rfl, -⟩ := id hm.lp
  have hx1 := alloc_at_ w (.cells #[.int .i64 (gi o 0), .int .i64 (gi o 1), .int .i64 (gi o 2), .int .i64 (gi o 3), .int .i64 (gi o 4), .int .i64 (gi o 5), .int .i64 (gi o 6), .int .i64 (gi o 7)] 38)
  have hb1 := al1 w (.cells #[.int .i64 (gi o 0), .int .i64 (gi o 1), .int .i64 (gi o 2), .int .i64 (gi o 3), .int .i64 (gi o 4), .int .i64 (gi o 5), .int .i64 (gi o 6), .int .i64 (gi o 7)] 38)
  have hwd := hok.wd
  have hrk := hok.rk
  have HX := Lib.hid hx
  have HM := Lib.hid hm
  have HOK := Lib.hid hok
  have HO := Lib.hid ho
  have HX1 := Lib.hid hx1
  have HB1 := Lib.hid hb1
  have HZ1 : Hid ((w.alloc (.cells #[.int .i64 (gi o 0), .int .i64 (gi o 1), .int .i64 (gi o 2), .int .i64 (gi o 3), .int .i64 (gi o 4), .int .i64 (gi o 5), .int .i64 (gi o 6), .int .i64 (gi o 7)] 38)).heap.size = w.heap.size + 1) := Lib.hid (by simp)
  have HCF : Hid (∀ W, Below (w.alloc (.cells #[.int .i64 (gi o 0), .int .i64 (gi o 1), .int .i64 (gi o 2), .int .i64 (gi o 3), .int .i64 (gi o 4), .int .i64 (gi o 5), .int .i64 (gi o 6), .int .i64 (gi o 7)] 38)).heap.size (w.alloc (.cells #[.int .i64 (gi o 0), .int .i64 (gi o 1), .int .i64 (gi o 2), .int .i64 (gi o 3), .int .i64 (gi o 4), .int .i64 (gi o 5), .int .i64 (gi o 6), .int .i64 (gi o 7)] 38)) W → OpOk m o → Calls Tryz.prog 129 #[.pointer (some ⟨g, 0, none⟩), op8 o] W fun e w' => e = .returned (.bool (cfB m o)) ∧ Below W.heap.size W w') := Lib.hid fun W q hop => carrierFits_any (keep_fwd (hb1.trans (q.mono hb1.size)) hx) ((hm.below (hb1.trans (q.mono hb1.size)) hB).cr) hok hop
  clear hx hm hok ho hx1 hb1
  have HK := Lib.hid (fun (w' : World) (q : Below (w.alloc (.cells #[.int .i64 (gi o 0), .int .i64 (gi o 1), .int .i64 (gi o 2), .int .i64 (gi o 3), .int .i64 (gi o 4), .int .i64 (gi o 5), .int .i64 (gi o 6), .int .i64 (gi o 7)] 38)).heap.size (w.alloc (.cells #[.int .i64 (gi o 0), .int .i64 (gi o 1), .int .i64 (gi o 2), .int .i64 (gi o 3), .int .i64 (gi o 4), .int .i64 (gi o 5), .int .i64 (gi o 6), .int .i64 (gi o 7)] 38)) w') => show (w'.cell? ⟨w.heap.size, 0, none⟩ = some (.int .i64 (gi o 0)) ∧ w'.cell? ⟨w.heap.size, 1, none⟩ = some (.int .i64 (gi o 1)) ∧ w'.cell? ⟨w.heap.size, 2, none⟩ = some (.int .i64 (gi o 2)) ∧ w'.cell? ⟨w.heap.size, 3, none⟩ = some (.int .i64 (gi o 3)) ∧ w'.cell? ⟨w.heap.size, 4, none⟩ = some (.int .i64 (gi o 4)) ∧ w'.cell? ⟨w.heap.size, 5, none⟩ = some (.int .i64 (gi o 5)) ∧ w'.cell? ⟨w.heap.size, 6, none⟩ = some (.int .i64 (gi o 6)) ∧ w'.cell? ⟨w.heap.size, 7, none⟩ = some (.int .i64 (gi o 7))) ∧ w'.cell? ⟨g, 0, none⟩ = some (.int .i64 m.wd) ∧ w'.cell? ⟨g, 5, none⟩ = some (.slice lA m.lp.length lc) from
    ⟨(box8 (keep_fwd q HX1.out)).1, (box7 (keep_fwd (HB1.out.trans (q.mono HB1.out.size)) HX.out)).1.1, (box7 (keep_fwd (HB1.out.trans (q.mono HB1.out.size)) HX.out)).1.2.2.2.2.2.1⟩)
  obtain ⟨-, g0, -⟩ := HK.out _ (Below.refl _ _)
  unfold op8 at *
  by_cases h3 : m.wd ≤ gi o 3
  · have HT := Lib.hid (opC_no (m := m) (o := o) (by omega))
    go_enter Tryz.func90, Tryz.ntmps90
    go_wp2_with fail
    go_quiet (fail)
    go_wp2
    go_ret
    exact ⟨ret_int HT.out.symm, below_drewN HB1.out _⟩
  · by_cases h5 : m.wd ≤ gi o 5
    · have HT := Lib.hid (opC_no (m := m) (o := o) (by omega))
      go_enter Tryz.func90, Tryz.ntmps90
      go_wp2_with fail
      go_quiet (fail)
      go_wp2
      go_ret
      exact ⟨ret_int HT.out.symm, below_drewN HB1.out _⟩
    · have hfm := op_form HO.out
      rcases hfm with ⟨hk, -, hb, -, -, -⟩ | ⟨hk, hb, -, hb2, -, hne⟩ | ⟨hk, hb, -, hb2, -, hne, -, -, -⟩ | ⟨hk, hb, -⟩ | ⟨hk, -, -⟩ | ⟨hk, -, -, -⟩ | ⟨hk, -, -⟩
      · rcases hk with hk | hk | hk
        · have h3l : gi o 3 < m.wd := by omega
          have h5l : gi o 5 < m.wd := by omega
          have HFI := Lib.hid (And.intro h3l h5l)
          have HKD := Lib.hid hk
          clear hk
          have HOP : Hid (OpOk m o) := Lib.hid ⟨HO.out, h3l, h5l⟩
          clear h3l h5l
          go_enter Tryz.func90, Tryz.ntmps90
          go_wp2_with fail
          go_quiet (fail)
          go_wp2_with fail
          clear h3 h5 q0 q1 q2 q3
          refine (HCF.out _ (below_drewN (Below.refl _ _) _) HOP.out).mono ?_
          rintro e w2 ⟨rfl, hq⟩
          clear g0
          have b2 : Below (w.alloc (.cells #[.int .i64 (gi o 0), .int .i64 (gi o 1), .int .i64 (gi o 2), .int .i64 (gi o 3), .int .i64 (gi o 4), .int .i64 (gi o 5), .int .i64 (gi o 6), .int .i64 (gi o 7)] 38)).heap.size (w.alloc (.cells #[.int .i64 (gi o 0), .int .i64 (gi o 1), .int .i64 (gi o 2), .int .i64 (gi o 3), .int .i64 (gi o 4), .int .i64 (gi o 5), .int .i64 (gi o 6), .int .i64 (gi o 7)] 38)) w2 := (below_drewN (Below.refl _ _) _).trans (hq.mono (Nat.le_refl _))
          clear hq
          obtain ⟨⟨c0, c1, c2, c3, c4, c5, c6, c7⟩, g0, g5⟩ := HK.out w2 b2
          rw [HKD.out] at c0
          cases hcf : cfB m o
          · have HT := Lib.hid (opC_cf HFI.out.1 HFI.out.2 hcf)
            clear hcf
            go_wp2
            go_ret
            exact ⟨ret_int HT.out.symm, HB1.out.trans (b2.mono HB1.out.size)⟩
          · have HC := Lib.hid hcf
            clear hcf
            go_wp2_with fail
            refine (mk_val (k := 1) (b := true) rfl _).mono ?_
            rintro e w3 ⟨rfl, rfl⟩
            by_cases hl3 : m.lp.length = 300
            · have HT := Lib.hid (opC_full HFI.out.1 HFI.out.2 HC.out (by rw [HKD.out]; rfl) hl3)
              go_wp2
              go_ret
              exact ⟨ret_int HT.out.symm, HB1.out.trans (b2.mono HB1.out.size)⟩
            · have hl3I : ¬ ((m.lp.length : Int) = 300) := by omega
              have HT := Lib.hid (opC_zero HFI.out.1 HFI.out.2 HC.out (fun q => hl3 q.2) (fun q => by have := q.1; rw [HKD.out] at this; revert this; decide) (fun q => by have := q.1; rw [HKD.out] at this; revert this; decide) ⟨by rw [HKD.out]; decide, by rw [HKD.out]; decide⟩)
              go_wp2
              go_ret
              exact ⟨ret_int HT.out.symm, HB1.out.trans (b2.mono HB1.out.size)⟩
        · have h3l : gi o 3 < m.wd := by omega
          have h5l : gi o 5 < m.wd := by omega
          have HFI := Lib.hid (And.intro h3l h5l)
          have HKD := Lib.hid hk
          clear hk
          have hn1 : m.ndl (gi o 2) (gi o 3) := ⟨hb, q0, h3l⟩
          obtain ⟨pp1, po1, pA1, pc1, hl1, hon1⟩ := on_row HX.out HM.out hB HOK.out hn1
          have ON1 := Lib.hid hon1
          clear hon1
          have HOP : Hid (OpOk m o) := Lib.hid ⟨HO.out, h3l, h5l⟩
          clear hn1
          clear h3l h5l
          go_enter Tryz.func90, Tryz.ntmps90
          go_wp2_with fail
          go_quiet (fail)
          go_wp2_with fail
          clear h3 h5 q0 q1 q2 q3
          refine (HCF.out _ (below_drewN (Below.refl _ _) _) HOP.out).mono ?_
          rintro e w2 ⟨rfl, hq⟩
          clear g0
          have b2 : Below (w.alloc (.cells #[.int .i64 (gi o 0), .int .i64 (gi o 1), .int .i64 (gi o 2), .int .i64 (gi o 3), .int .i64 (gi o 4), .int .i64 (gi o 5), .int .i64 (gi o 6), .int .i64 (gi o 7)] 38)).heap.size (w.alloc (.cells #[.int .i64 (gi o 0), .int .i64 (gi o 1), .int .i64 (gi o 2), .int .i64 (gi o 3), .int .i64 (gi o 4), .int .i64 (gi o 5), .int .i64 (gi o 6), .int .i64 (gi o 7)] 38)) w2 := (below_drewN (Below.refl _ _) _).trans (hq.mono (Nat.le_refl _))
          clear hq
          obtain ⟨⟨c0, c1, c2, c3, c4, c5, c6, c7⟩, g0, g5⟩ := HK.out w2 b2
          rw [HKD.out] at c0
          cases hcf : cfB m o
          · have HT := Lib.hid (opC_cf HFI.out.1 HFI.out.2 hcf)
            clear hcf
            go_wp2
            go_ret
            exact ⟨ret_int HT.out.symm, HB1.out.trans (b2.mono HB1.out.size)⟩
          · have HC := Lib.hid hcf
            clear hcf
            go_wp2_with fail
            refine (mk_val (k := 2) (b := true) rfl _).mono ?_
            rintro e w3 ⟨rfl, rfl⟩
            by_cases hl3 : m.lp.length = 300
            · have HT := Lib.hid (opC_full HFI.out.1 HFI.out.2 HC.out (by rw [HKD.out]; rfl) hl3)
              go_wp2
              go_ret
              exact ⟨ret_int HT.out.symm, HB1.out.trans (b2.mono HB1.out.size)⟩
            · have hl3I : ¬ ((m.lp.length : Int) = 300) := by omega
              go_wp2_with fail
              refine (ON1.out _ (HB1.out.trans (b2.mono HB1.out.size))).2.2.mono ?_
              rintro e w4 ⟨rfl, hq⟩
              clear c0 c1 c2 c3 c4 c5 c6 c7 g0 g5
              have b4 : Below (w.alloc (.cells #[.int .i64 (gi o 0), .int .i64 (gi o 1), .int .i64 (gi o 2), .int .i64 (gi o 3), .int .i64 (gi o 4), .int .i64 (gi o 5), .int .i64 (gi o 6), .int .i64 (gi o 7)] 38)).heap.size (w.alloc (.cells #[.int .i64 (gi o 0), .int .i64 (gi o 1), .int .i64 (gi o 2), .int .i64 (gi o 3), .int .i64 (gi o 4), .int .i64 (gi o 5), .int .i64 (gi o 6), .int .i64 (gi o 7)] 38)) w4 := b2.trans (hq.mono b2.size)
              clear hq
              have r4 := (ON1.out w4 (HB1.out.trans (b4.mono HB1.out.size))).1
              obtain ⟨⟨c0, c1, c2, c3, c4, c5, c6, c7⟩, g0, g5⟩ := HK.out w4 b4
              rw [HKD.out] at c0
              by_cases h4 : (m.on (gi o 2) (gi o 3)).length = 4
              · have HT := Lib.hid (opC_tuck HFI.out.1 HFI.out.2 HC.out hl3 HKD.out h4)
                go_wp2
                go_ret
                exact ⟨ret_int HT.out.symm, HB1.out.trans (b4.mono HB1.out.size)⟩
              · have h4I : ¬ ((m.on (gi o 2) (gi o 3)).length : Int) = 4 := by omega
                have HT := Lib.hid (opC_zero HFI.out.1 HFI.out.2 HC.out (fun q => hl3 q.2) (fun q => h4 q.2) (fun q => by have := q.1; rw [HKD.out] at this; revert this; decide) ⟨by rw [HKD.out]; decide, by rw [HKD.out]; decide⟩)
                go_wp2
                go_ret
                exact ⟨ret_int HT.out.symm, HB1.out.trans (b4.mono HB1.out.size)⟩
        · have h3l : gi o 3 < m.wd := by omega
          have h5l : gi o 5 < m.wd := by omega
          have HFI := Lib.hid (And.intro h3l h5l)
          have HKD := Lib.hid hk
          clear hk
          have HOP : Hid (OpOk m o) := Lib.hid ⟨HO.out, h3l, h5l⟩
          clear h3l h5l
          go_enter Tryz.func90, Tryz.ntmps90
          go_wp2_with fail
          go_quiet (fail)
          go_wp2_with fail
          clear h3 h5 q0 q1 q2 q3
          refine (HCF.out _ (below_drewN (Below.refl _ _) _) HOP.out).mono ?_
          rintro e w2 ⟨rfl, hq⟩
          clear g0
          have b2 : Below (w.alloc (.cells #[.int .i64 (gi o 0), .int .i64 (gi o 1), .int .i64 (gi o 2), .int .i64 (gi o 3), .int .i64 (gi o 4), .int .i64 (gi o 5), .int .i64 (gi o 6), .int .i64 (gi o 7)] 38)).heap.size (w.alloc (.cells #[.int .i64 (gi o 0), .int .i64 (gi o 1), .int .i64 (gi o 2), .int .i64 (gi o 3), .int .i64 (gi o 4), .int .i64 (gi o 5), .int .i64 (gi o 6), .int .i64 (gi o 7)] 38)) w2 := (below_drewN (Below.refl _ _) _).trans (hq.mono (Nat.le_refl _))
          clear hq
          obtain ⟨⟨c0, c1, c2, c3, c4, c5, c6, c7⟩, g0, g5⟩ := HK.out w2 b2
          rw [HKD.out] at c0
          cases hcf : cfB m o
          · have HT := Lib.hid (opC_cf HFI.out.1 HFI.out.2 hcf)
            clear hcf
            go_wp2
            go_ret
            exact ⟨ret_int HT.out.symm, HB1.out.trans (b2.mono HB1.out.size)⟩
          · have HC := Lib.hid hcf
            clear hcf
            go_wp2_with fail
            refine (mk_val (k := 3) (b := false) rfl _).mono ?_
            rintro e w3 ⟨rfl, rfl⟩
            have HT := Lib.hid (opC_zero HFI.out.1 HFI.out.2 HC.out (fun q => by have := q.1; rw [HKD.out] at this; revert this; decide) (fun q => by have := q.1; rw [HKD.out] at this; revert this; decide) (fun q => by have := q.1; rw [HKD.out] at this; revert this; decide) ⟨by rw [HKD.out]; decide, by rw [HKD.out]; decide⟩)
            go_wp2
            go_ret
            exact ⟨ret_int HT.out.symm, HB1.out.trans (b2.mono HB1.out.size)⟩
      · have h3l : gi o 3 < m.wd := by omega
        have h5l : gi o 5 < m.wd := by omega
        have HFI := Lib.hid (And.intro h3l h5l)
        have HKD := Lib.hid hk
        clear hk
        have hn1 : m.ndl (gi o 2) (gi o 3) := ⟨hb, q0, h3l⟩
        obtain ⟨pp1, po1, pA1, pc1, hl1, hon1⟩ := on_row HX.out HM.out hB HOK.out hn1
        have ON1 := Lib.hid hon1
        clear hon1
        have hn2 : m.ndl (gi o 4) (gi o 5) := ⟨hb2, q2, h5l⟩
        obtain ⟨pp2, po2, pA2, pc2, hl2, hon2⟩ := on_row HX.out HM.out hB HOK.out hn2
        have ON2 := Lib.hid hon2
        clear hon2
        have HOP : Hid (OpOk m o) := Lib.hid ⟨HO.out, h3l, h5l⟩
        clear hn1
        clear hn2
        have HFC : Hid (∀ W, Below w.heap.size w W → Calls Tryz.prog 130 #[.pointer (some ⟨g, 0, none⟩), .agg #[.int .i64 (gi o 2), .int .i64 (gi o 3)]] W fun e w' => e = .returned (.tuple #[.agg #[.int .i64 (gi o 4), .int .i64 (faceM m o)], .bool (inR (faceM m o) 0 (m.wd - 1))]) ∧ Below W.heap.size W w') := Lib.hid fun W q => by
          have := facing_any (keep_fwd q HX.out) hb ⟨q0, q1⟩ hrk hwd
          rwa [show (3 : Int) - gi o 2 = gi o 4 by omega] at this
        have HQ4 : Hid (3 - gi o 2 = gi o 4) := Lib.hid (by omega)
        clear h3l h5l
        go_enter Tryz.func90, Tryz.ntmps90
        go_wp2_with fail
        go_quiet (fail)
        go_wp2_with fail
        clear h3 h5 q0 q1 q2 q3
        refine (HCF.out _ (below_drewN (Below.refl _ _) _) HOP.out).mono ?_
        rintro e w2 ⟨rfl, hq⟩
        clear g0
        have b2 : Below (w.alloc (.cells #[.int .i64 (gi o 0), .int .i64 (gi o 1), .int .i64 (gi o 2), .int .i64 (gi o 3), .int .i64 (gi o 4), .int .i64 (gi o 5), .int .i64 (gi o 6), .int .i64 (gi o 7)] 38)).heap.size (w.alloc (.cells #[.int .i64 (gi o 0), .int .i64 (gi o 1), .int .i64 (gi o 2), .int .i64 (gi o 3), .int .i64 (gi o 4), .int .i64 (gi o 5), .int .i64 (gi o 6), .int .i64 (gi o 7)] 38)) w2 := (below_drewN (Below.refl _ _) _).trans (hq.mono (Nat.le_refl _))
        clear hq
        obtain ⟨⟨c0, c1, c2, c3, c4, c5, c6, c7⟩, g0, g5⟩ := HK.out w2 b2
        rw [HKD.out] at c0
        cases hcf : cfB m o
        · have HT := Lib.hid (opC_cf HFI.out.1 HFI.out.2 hcf)
          clear hcf
          go_wp2
          go_ret
          exact ⟨ret_int HT.out.symm, HB1.out.trans (b2.mono HB1.out.size)⟩
        · have HC := Lib.hid hcf
          clear hcf
          go_wp2_with fail
          refine (mk_val (k := 4) (b := false) rfl _).mono ?_
          rintro e w3 ⟨rfl, rfl⟩
          have HMV := Lib.hid (opC_mv HFI.out.1 HFI.out.2 HC.out (fun q => by have := q.1; rw [HKD.out] at this; revert this; decide) (by rw [HKD.out]; decide))
          have HIN : Hid (inR (faceM m o) 0 (m.wd - 1) = true ↔ 0 ≤ faceM m o ∧ faceM m o ≤ m.wd - 1) := Lib.hid inR_iff
          go_wp2_with fail
          refine (HFC.out _ (HB1.out.trans (b2.mono HB1.out.size))).mono ?_
          rintro e w4 ⟨rfl, hq⟩
          clear c0 c1 c2 c3 c4 c5 c6 c7 g0 g5
          have b4 : Below (w.alloc (.cells #[.int .i64 (gi o 0), .int .i64 (gi o 1), .int .i64 (gi o 2), .int .i64 (gi o 3), .int .i64 (gi o 4), .int .i64 (gi o 5), .int .i64 (gi o 6), .int .i64 (gi o 7)] 38)).heap.size (w.alloc (.cells #[.int .i64 (gi o 0), .int .i64 (gi o 1), .int .i64 (gi o 2), .int .i64 (gi o 3), .int .i64 (gi o 4), .int .i64 (gi o 5), .int .i64 (gi o 6), .int .i64 (gi o 7)] 38)) w4 := b2.trans (hq.mono b2.size)
          clear hq
          obtain ⟨⟨c0, c1, c2, c3, c4, c5, c6, c7⟩, g0, g5⟩ := HK.out w4 b4
          rw [HKD.out] at c0
          have hz4 : w.heap.size < w4.heap.size := by have := b4.size; have := HZ1.out; omega
          by_cases hin : inR (faceM m o) 0 (m.wd - 1) = true
          · by_cases hff : faceM m o = gi o 5
            · have HIV := Lib.hid hin
              have HXX2 := Lib.hid hff
              have HFF : Hid (0 ≤ faceM m o ∧ faceM m o ≤ m.wd - 1 ∧ 3 - gi o 2 = gi o 4 ∧ faceM m o = gi o 5) := Lib.hid ⟨(HIN.out.1 HIV.out).1, (HIN.out.1 HIV.out).2, HQ4.out, HXX2.out⟩
              rw [hin, hff]
              clear hin hff
              have b5 : Below (w.alloc (.cells #[.int .i64 (gi o 0), .int .i64 (gi o 1), .int .i64 (gi o 2), .int .i64 (gi o 3), .int .i64 (gi o 4), .int .i64 (gi o 5), .int .i64 (gi o 6), .int .i64 (gi o 7)] 38)).heap.size (w.alloc (.cells #[.int .i64 (gi o 0), .int .i64 (gi o 1), .int .i64 (gi o 2), .int .i64 (gi o 3), .int .i64 (gi o 4), .int .i64 (gi o 5), .int .i64 (gi o 6), .int .i64 (gi o 7)] 38)) (w4.alloc (.cells #[.int .i64 (gi o 4), .int .i64 (gi o 5)] 36)) := b4.trans ((al1 w4 _).mono b4.size)
              go_wp2_with fail
              refine (ON1.out _ (HB1.out.trans (b5.mono HB1.out.size))).2.2.mono ?_
              rintro e w6 ⟨rfl, hq⟩
              clear c0 c1 c2 c3 c4 c5 c6 c7 g0 g5
              have b6 : Below (w.alloc (.cells #[.int .i64 (gi o 0), .int .i64 (gi o 1), .int .i64 (gi o 2), .int .i64 (gi o 3), .int .i64 (gi o 4), .int .i64 (gi o 5), .int .i64 (gi o 6), .int .i64 (gi o 7)] 38)).heap.size (w.alloc (.cells #[.int .i64 (gi o 0), .int .i64 (gi o 1), .int .i64 (gi o 2), .int .i64 (gi o 3), .int .i64 (gi o 4), .int .i64 (gi o 5), .int .i64 (gi o 6), .int .i64 (gi o 7)] 38)) w6 := b5.trans (hq.mono b5.size)
              clear hq
              have r6 := (ON1.out w6 (HB1.out.trans (b6.mono HB1.out.size))).1
              obtain ⟨⟨c0, c1, c2, c3, c4, c5, c6, c7⟩, g0, g5⟩ := HK.out w6 b6
              rw [HKD.out] at c0
              by_cases h4 : (m.on (gi o 2) (gi o 3)).length = 0
              · have HT : Hid (opC m o = 7) := Lib.hid (by rw [HMV.out]; exact mvC_empty HFF.out h4)
                go_wp2
                go_ret
                exact ⟨ret_int HT.out.symm, HB1.out.trans (b6.mono HB1.out.size)⟩
              · have h4I : ¬ ((m.on (gi o 2) (gi o 3)).length : Int) = 0 := by omega
                have hsm : IntKind.i64.wrap (((m.on (gi o 2) (gi o 3)).length : Int) + ((m.on (gi o 4) (gi o 5)).length : Int)) = ((m.on (gi o 2) (gi o 3)).length : Int) + ((m.on (gi o 4) (gi o 5)).length : Int) := IntWalk.i64_in _ (by omega)
                have HKK := Lib.hid (fun (w' : World) (q : Below (w.alloc (.cells #[.int .i64 (gi o 0), .int .i64 (gi o 1), .int .i64 (gi o 2), .int .i64 (gi o 3), .int .i64 (gi o 4), .int .i64 (gi o 5), .int .i64 (gi o 6), .int .i64 (gi o 7)] 38)).heap.size (w.alloc (.cells #[.int .i64 (gi o 0), .int .i64 (gi o 1), .int .i64 (gi o 2), .int .i64 (gi o 3), .int .i64 (gi o 4), .int .i64 (gi o 5), .int .i64 (gi o 6), .int .i64 (gi o 7)] 38)) w') => And.intro (show w'.cell? ⟨w.heap.size, 2, none⟩ = some (.int .i64 (gi o 2)) ∧ w'.cell? ⟨w.heap.size, 3, none⟩ = some (.int .i64 (gi o 3)) ∧ w'.cell? ⟨w.heap.size, 4, none⟩ = some (.int .i64 (gi o 4)) ∧ w'.cell? ⟨w.heap.size, 5, none⟩ = some (.int .i64 (gi o 5)) from ⟨(HK.out w' q).1.2.2.1, (HK.out w' q).1.2.2.2.1, (HK.out w' q).1.2.2.2.2.1, (HK.out w' q).1.2.2.2.2.2.1⟩) (And.intro (ON1.out w' (HB1.out.trans (q.mono HB1.out.size))).1 (ON2.out w' (HB1.out.trans (q.mono HB1.out.size))).1))
                go_wp2_with fail
                refine wp_region_z (fun w' => (w'.cell? ⟨w.heap.size, 2, none⟩ = some (.int .i64 (gi o 2)) ∧ w'.cell? ⟨w.heap.size, 3, none⟩ = some (.int .i64 (gi o 3)) ∧ w'.cell? ⟨w.heap.size, 4, none⟩ = some (.int .i64 (gi o 4)) ∧ w'.cell? ⟨w.heap.size, 5, none⟩ = some (.int .i64 (gi o 5))) ∧ w'.cell? ⟨pp1, po1, none⟩ = some (.slice pA1 (m.on (gi o 2) (gi o 3)).length pc1) ∧ w'.cell? ⟨pp2, po2, none⟩ = some (.slice pA2 (m.on (gi o 4) (gi o 5)).length pc2)) 16 (by kernel_rfl) (HKK.out _ b6.drew) (fun hH0 => ?_)
                refine wpZ_take 0 18 (u := ?_) rfl (by kernel_rfl) (fun _ _ _ h => h) ⟨by rfl, ?_⟩ hH0 ?_
                rotate_left
                · intro w hSw; (try dsimp only at hSw); go_simp; (first | done | with_reducible rfl)
                try simp only [Act.put, sb1, sb2, sb3]
                refine wpZ_take 1 18 (u := ?_) rfl (by kernel_rfl) (fun _ _ _ h => h) ⟨by rfl, ?_⟩ hH0 ?_
                rotate_left
                · intro w hSw; (try dsimp only at hSw); go_simp; (first | done | with_reducible rfl)
                try simp only [Act.put, sb1, sb2, sb3]
                refine wpZ_take 2 18 (u := ?_) rfl (by kernel_rfl) (fun _ _ _ h => h) ⟨by rfl, ?_⟩ hH0 ?_
                rotate_left
                · intro w hSw; (try dsimp only at hSw); go_simp; (first | done | with_reducible rfl)
                try simp only [Act.put, sb1, sb2, sb3]
                refine wpZ_take 7 18 (u := ?_) rfl (by kernel_rfl) (fun _ _ _ h => h) ⟨by rfl, ?_⟩ hH0 ?_
                rotate_left
                · intro w hSw; (try dsimp only at hSw); go_simp; (first | done | with_reducible rfl)
                try simp only [Act.put, sb1, sb2, sb3]
                refine wpZ_take 8 18 (u := ?_) rfl (by kernel_rfl) (fun _ _ _ h => h) ⟨by rfl, ?_⟩ hH0 ?_
                rotate_left
                · intro w hSw; (try dsimp only at hSw); go_simp; (first | done | with_reducible rfl)
                try simp only [Act.put, sb1, sb2, sb3]
                refine wpZ_take 9 18 (u := ?_) rfl (by kernel_rfl) (fun _ _ _ h => h) ⟨by rfl, ?_⟩ hH0 ?_
                rotate_left
                · intro w hSw; (try dsimp only at hSw); go_simp; (first | done | with_reducible rfl)
                try simp only [Act.put, sb1, sb2, sb3]
                refine wpZ_only 3 rfl (by kernel_rfl) (by rfl) (fun K hK => ?_)
                go_simp
                go_at_call 91
                refine (ON1.out _ (HB1.out.trans (b6.drew.mono HB1.out.size))).2.2.mono ?_
                rintro e w7 ⟨rfl, hq⟩
                have b7 : Below (w.alloc (.cells #[.int .i64 (gi o 0), .int .i64 (gi o 1), .int .i64 (gi o 2), .int .i64 (gi o 3), .int .i64 (gi o 4), .int .i64 (gi o 5), .int .i64 (gi o 6), .int .i64 (gi o 7)] 38)).heap.size (w.alloc (.cells #[.int .i64 (gi o 0), .int .i64 (gi o 1), .int .i64 (gi o 2), .int .i64 (gi o 3), .int .i64 (gi o 4), .int .i64 (gi o 5), .int .i64 (gi o 6), .int .i64 (gi o 7)] 38)) w7 := b6.drew.trans (hq.mono b6.drew.size)
                go_wp2_with fail
                refine hK.out _ _ ?_ (fun hH1 => ?_)
                · exact HKK.out _ b7
                clear hK K hH0
                try simp only [Act.put, sb1, sb2, sb3]
                refine wpZ_take 4 18 (u := ?_) rfl (by kernel_rfl) (fun _ _ _ h => h) ⟨by rfl, ?_⟩ hH1 ?_
                rotate_left
                · intro w hSw; (try dsimp only at hSw); go_simp; (first | done | with_reducible rfl)
                try simp only [Act.put, sb1, sb2, sb3]
                refine wpZ_take 5 18 (u := ?_) rfl (by kernel_rfl) (fun _ _ _ h => h) ⟨by rfl, ?_⟩ hH1 ?_
                rotate_left
                · intro w hSw; (try dsimp only at hSw); go_simp; (first | done | with_reducible rfl)
                try simp only [Act.put, sb1, sb2, sb3]
                refine wpZ_take 6 18 (u := ?_) rfl (by kernel_rfl) (fun _ _ _ h => h) ⟨by rfl, ?_⟩ hH1 ?_
                rotate_left
                · intro w hSw; (try dsimp only at hSw); go_simp; (first | done | with_reducible rfl)
                try simp only [Act.put, sb1, sb2, sb3]
                refine wpZ_only 10 rfl (by kernel_rfl) (by rfl) (fun K hK => ?_)
                go_simp
                go_at_call 91
                refine (ON2.out _ (HB1.out.trans (b7.mono HB1.out.size))).2.2.mono ?_
                rintro e w8 ⟨rfl, hq2⟩
                have b8 : Below (w.alloc (.cells #[.int .i64 (gi o 0), .int .i64 (gi o 1), .int .i64 (gi o 2), .int .i64 (gi o 3), .int .i64 (gi o 4), .int .i64 (gi o 5), .int .i64 (gi o 6), .int .i64 (gi o 7)] 38)).heap.size (w.alloc (.cells #[.int .i64 (gi o 0), .int .i64 (gi o 1), .int .i64 (gi o 2), .int .i64 (gi o 3), .int .i64 (gi o 4), .int .i64 (gi o 5), .int .i64 (gi o 6), .int .i64 (gi o 7)] 38)) w8 := b7.trans (hq2.mono b7.size)
                go_wp2_with fail
                refine hK.out _ _ ?_ (fun hH2 => ?_)
                · exact HKK.out _ b8
                clear hK K hH1
                try simp only [Act.put, sb1, sb2, sb3]
                refine wpZ_take 11 18 (u := ?_) rfl (by kernel_rfl) (fun _ _ _ h => h) ⟨by rfl, ?_⟩ hH2 ?_
                rotate_left
                · intro w hSw; (try dsimp only at hSw); go_simp; (first | done | with_reducible rfl)
                try simp only [Act.put, sb1, sb2, sb3]
                refine wpZ_take 12 18 (u := ?_) rfl (by kernel_rfl) (fun _ _ _ h => h) ⟨by rfl, ?_⟩ hH2 ?_
                rotate_left
                · intro w hSw; (try dsimp only at hSw); go_simp; (first | done | with_reducible rfl)
                try simp only [Act.put, sb1, sb2, sb3]
                refine wpZ_take 13 18 (u := ?_) rfl (by kernel_rfl) (fun _ _ _ h => h) ⟨by rfl, ?_⟩ hH2 ?_
                rotate_left
                · intro w hSw; (try dsimp only at hSw); go_simp; (first | done | with_reducible rfl)
                try simp only [Act.put, sb1, sb2, sb3]
                refine wpZ_take 14 18 (u := ?_) rfl (by kernel_rfl) (fun _ _ _ h => h) ⟨by rfl, ?_⟩ hH2 ?_
                rotate_left
                · intro w hSw; (try dsimp only at hSw); go_simp; (first | done | with_reducible rfl)
                try simp only [Act.put, sb1, sb2, sb3]
                refine wpZ_take 15 18 (u := ?_) rfl (by kernel_rfl) (fun _ _ _ h => h) ⟨by rfl, ?_⟩ hH2 ?_
                rotate_left
                · intro w hSw; (try dsimp only at hSw); go_simp; (first | done | with_reducible rfl)
                try simp only [Act.put, sb1, sb2, sb3]
                refine wpZ_last rfl (by kernel_rfl) (by kernel_rfl) (by rfl) (fun K hK => ?_)
                go_simp
                refine hK.out _ _ ?_
                clear hK K hH2
                by_cases h9 : 4 < (m.on (gi o 2) (gi o 3)).length + (m.on (gi o 4) (gi o 5)).length
                · have h9I : ((m.on (gi o 2) (gi o 3)).length : Int) + (m.on (gi o 4) (gi o 5)).length > 4 := by omega
                  have HT : Hid (opC m o = 5) := Lib.hid (by rw [HMV.out]; exact mvC_full HFF.out h4 h9)
                  go_wp2
                  go_ret
                  exact ⟨ret_int HT.out.symm, HB1.out.trans (b8.mono HB1.out.size)⟩
                · have h9I : ¬ ((m.on (gi o 2) (gi o 3)).length : Int) + (m.on (gi o 4) (gi o 5)).length > 4 := by omega
                  have HT : Hid (opC m o = 0) := Lib.hid (by rw [HMV.out]; exact mvC_ok HFF.out h4 h9)
                  go_wp2
                  go_ret
                  exact ⟨ret_int HT.out.symm, HB1.out.trans (b8.mono HB1.out.size)⟩
            · have HT : Hid (opC m o = 8) := Lib.hid (by rw [HMV.out]; exact mvC_rack (fun q => hff q.2.2.2))
              rw [hin]
              clear hin HIN
              generalize faceM m o = X at *
              have hne : ¬ gi o 5 = X := fun q => hff q.symm
              go_wp2
              go_ret
              exact ⟨ret_int HT.out.symm, HB1.out.trans ((b4.trans ((al1 w4 _).mono b4.size)).mono HB1.out.size)⟩
          · have HT : Hid (opC m o = 8) := Lib.hid (by rw [HMV.out]; exact mvC_rack (fun q => hin (HIN.out.2 ⟨q.1, q.2.1⟩)))
            rw [Bool.not_eq_true] at hin
            rw [hin]
            clear hin HIN
            generalize faceM m o = X at *
            go_wp2
            go_ret
            exact ⟨ret_int HT.out.symm, HB1.out.trans ((b4.trans ((al1 w4 _).mono b4.size)).mono HB1.out.size)⟩
      · have h3l : gi o 3 < m.wd := by omega
        have h5l : gi o 5 < m.wd := by omega
        have HFI := Lib.hid (And.intro h3l h5l)
        have HKD := Lib.hid hk
        clear hk
        have hn1 : m.ndl (gi o 2) (gi o 3) := ⟨hb, q0, h3l⟩
        obtain ⟨pp1, po1, pA1, pc1, hl1, hon1⟩ := on_row HX.out HM.out hB HOK.out hn1
        have ON1 := Lib.hid hon1
        clear hon1
        have hn2 : m.ndl (gi o 4) (gi o 5) := ⟨hb2, q2, h5l⟩
        obtain ⟨pp2, po2, pA2, pc2, hl2, hon2⟩ := on_row HX.out HM.out hB HOK.out hn2
        have ON2 := Lib.hid hon2
        clear hon2
        have HOP : Hid (OpOk m o) := Lib.hid ⟨HO.out, h3l, h5l⟩
        clear hn1
        clear hn2
        have HFC : Hid (∀ W, Below w.heap.size w W → Calls Tryz.prog 130 #[.pointer (some ⟨g, 0, none⟩), .agg #[.int .i64 (gi o 2), .int .i64 (gi o 3)]] W fun e w' => e = .returned (.tuple #[.agg #[.int .i64 (gi o 4), .int .i64 (faceM m o)], .bool (inR (faceM m o) 0 (m.wd - 1))]) ∧ Below W.heap.size W w') := Lib.hid fun W q => by
          have := facing_any (keep_fwd q HX.out) hb ⟨q0, q1⟩ hrk hwd
          rwa [show (3 : Int) - gi o 2 = gi o 4 by omega] at this
        have HQ4 : Hid (3 - gi o 2 = gi o 4) := Lib.hid (by omega)
        clear h3l h5l
        go_enter Tryz.func90, Tryz.ntmps90
        go_wp2_with fail
        go_quiet (fail)
        go_wp2_with fail
        clear h3 h5 q0 q1 q2 q3
        refine (HCF.out _ (below_drewN (Below.refl _ _) _) HOP.out).mono ?_
        rintro e w2 ⟨rfl, hq⟩
        clear g0
        have b2 : Below (w.alloc (.cells #[.int .i64 (gi o 0), .int .i64 (gi o 1), .int .i64 (gi o 2), .int .i64 (gi o 3), .int .i64 (gi o 4), .int .i64 (gi o 5), .int .i64 (gi o 6), .int .i64 (gi o 7)] 38)).heap.size (w.alloc (.cells #[.int .i64 (gi o 0), .int .i64 (gi o 1), .int .i64 (gi o 2), .int .i64 (gi o 3), .int .i64 (gi o 4), .int .i64 (gi o 5), .int .i64 (gi o 6), .int .i64 (gi o 7)] 38)) w2 := (below_drewN (Below.refl _ _) _).trans (hq.mono (Nat.le_refl _))
        clear hq
        obtain ⟨⟨c0, c1, c2, c3, c4, c5, c6, c7⟩, g0, g5⟩ := HK.out w2 b2
        rw [HKD.out] at c0
        cases hcf : cfB m o
        · have HT := Lib.hid (opC_cf HFI.out.1 HFI.out.2 hcf)
          clear hcf
          go_wp2
          go_ret
          exact ⟨ret_int HT.out.symm, HB1.out.trans (b2.mono HB1.out.size)⟩
        · have HC := Lib.hid hcf
          clear hcf
          go_wp2_with fail
          refine (mk_val (k := 5) (b := true) rfl _).mono ?_
          rintro e w3 ⟨rfl, rfl⟩
          by_cases hl3 : m.lp.length = 300
          · have HT := Lib.hid (opC_full HFI.out.1 HFI.out.2 HC.out (by rw [HKD.out]; rfl) hl3)
            go_wp2
            go_ret
            exact ⟨ret_int HT.out.symm, HB1.out.trans (b2.mono HB1.out.size)⟩
          · have hl3I : ¬ ((m.lp.length : Int) = 300) := by omega
            have HMV := Lib.hid (opC_mv HFI.out.1 HFI.out.2 HC.out (fun q => hl3 q.2) (by rw [HKD.out]; decide))
            have HIN : Hid (inR (faceM m o) 0 (m.wd - 1) = true ↔ 0 ≤ faceM m o ∧ faceM m o ≤ m.wd - 1) := Lib.hid inR_iff
            go_wp2_with fail
            refine (HFC.out _ (HB1.out.trans (b2.mono HB1.out.size))).mono ?_
            rintro e w4 ⟨rfl, hq⟩
            clear c0 c1 c2 c3 c4 c5 c6 c7 g0 g5
            have b4 : Below (w.alloc (.cells #[.int .i64 (gi o 0), .int .i64 (gi o 1), .int .i64 (gi o 2), .int .i64 (gi o 3), .int .i64 (gi o 4), .int .i64 (gi o 5), .int .i64 (gi o 6), .int .i64 (gi o 7)] 38)).heap.size (w.alloc (.cells #[.int .i64 (gi o 0), .int .i64 (gi o 1), .int .i64 (gi o 2), .int .i64 (gi o 3), .int .i64 (gi o 4), .int .i64 (gi o 5), .int .i64 (gi o 6), .int .i64 (gi o 7)] 38)) w4 := b2.trans (hq.mono b2.size)
            clear hq
            obtain ⟨⟨c0, c1, c2, c3, c4, c5, c6, c7⟩, g0, g5⟩ := HK.out w4 b4
            rw [HKD.out] at c0
            have hz4 : w.heap.size < w4.heap.size := by have := b4.size; have := HZ1.out; omega
            by_cases hin : inR (faceM m o) 0 (m.wd - 1) = true
            · by_cases hff : faceM m o = gi o 5
              · have HIV := Lib.hid hin
                have HXX2 := Lib.hid hff
                have HFF : Hid (0 ≤ faceM m o ∧ faceM m o ≤ m.wd - 1 ∧ 3 - gi o 2 = gi o 4 ∧ faceM m o = gi o 5) := Lib.hid ⟨(HIN.out.1 HIV.out).1, (HIN.out.1 HIV.out).2, HQ4.out, HXX2.out⟩
                rw [hin, hff]
                clear hin hff
                have b5 : Below (w.alloc (.cells #[.int .i64 (gi o 0), .int .i64 (gi o 1), .int .i64 (gi o 2), .int .i64 (gi o 3), .int .i64 (gi o 4), .int .i64 (gi o 5), .int .i64 (gi o 6), .int .i64 (gi o 7)] 38)).heap.size (w.alloc (.cells #[.int .i64 (gi o 0), .int .i64 (gi o 1), .int .i64 (gi o 2), .int .i64 (gi o 3), .int .i64 (gi o 4), .int .i64 (gi o 5), .int .i64 (gi o 6), .int .i64 (gi o 7)] 38)) (w4.alloc (.cells #[.int .i64 (gi o 4), .int .i64 (gi o 5)] 36)) := b4.trans ((al1 w4 _).mono b4.size)
                go_wp2_with fail
                refine (ON1.out _ (HB1.out.trans (b5.mono HB1.out.size))).2.2.mono ?_
                rintro e w6 ⟨rfl, hq⟩
                clear c0 c1 c2 c3 c4 c5 c6 c7 g0 g5
                have b6 : Below (w.alloc (.cells #[.int .i64 (gi o 0), .int .i64 (gi o 1), .int .i64 (gi o 2), .int .i64 (gi o 3), .int .i64 (gi o 4), .int .i64 (gi o 5), .int .i64 (gi o 6), .int .i64 (gi o 7)] 38)).heap.size (w.alloc (.cells #[.int .i64 (gi o 0), .int .i64 (gi o 1), .int .i64 (gi o 2), .int .i64 (gi o 3), .int .i64 (gi o 4), .int .i64 (gi o 5), .int .i64 (gi o 6), .int .i64 (gi o 7)] 38)) w6 := b5.trans (hq.mono b5.size)
                clear hq
                have r6 := (ON1.out w6 (HB1.out.trans (b6.mono HB1.out.size))).1
                obtain ⟨⟨c0, c1, c2, c3, c4, c5, c6, c7⟩, g0, g5⟩ := HK.out w6 b6
                rw [HKD.out] at c0
                by_cases h4 : (m.on (gi o 2) (gi o 3)).length = 0
                · have HT : Hid (opC m o = 7) := Lib.hid (by rw [HMV.out]; exact mvC_empty HFF.out h4)
                  go_wp2
                  go_ret
                  exact ⟨ret_int HT.out.symm, HB1.out.trans (b6.mono HB1.out.size)⟩
                · have h4I : ¬ ((m.on (gi o 2) (gi o 3)).length : Int) = 0 := by omega
                  have hsm : IntKind.i64.wrap (((m.on (gi o 2) (gi o 3)).length : Int) + ((m.on (gi o 4) (gi o 5)).length : Int)) = ((m.on (gi o 2) (gi o 3)).length : Int) + ((m.on (gi o 4) (gi o 5)).length : Int) := IntWalk.i64_in _ (by omega)
                  have HKK := Lib.hid (fun (w' : World) (q : Below (w.alloc (.cells #[.int .i64 (gi o 0), .int .i64 (gi o 1), .int .i64 (gi o 2), .int .i64 (gi o 3), .int .i64 (gi o 4), .int .i64 (gi o 5), .int .i64 (gi o 6), .int .i64 (gi o 7)] 38)).heap.size (w.alloc (.cells #[.int .i64 (gi o 0), .int .i64 (gi o 1), .int .i64 (gi o 2), .int .i64 (gi o 3), .int .i64 (gi o 4), .int .i64 (gi o 5), .int .i64 (gi o 6), .int .i64 (gi o 7)] 38)) w') => And.intro (show w'.cell? ⟨w.heap.size, 2, none⟩ = some (.int .i64 (gi o 2)) ∧ w'.cell? ⟨w.heap.size, 3, none⟩ = some (.int .i64 (gi o 3)) ∧ w'.cell? ⟨w.heap.size, 4, none⟩ = some (.int .i64 (gi o 4)) ∧ w'.cell? ⟨w.heap.size, 5, none⟩ = some (.int .i64 (gi o 5)) from ⟨(HK.out w' q).1.2.2.1, (HK.out w' q).1.2.2.2.1, (HK.out w' q).1.2.2.2.2.1, (HK.out w' q).1.2.2.2.2.2.1⟩) (And.intro (ON1.out w' (HB1.out.trans (q.mono HB1.out.size))).1 (ON2.out w' (HB1.out.trans (q.mono HB1.out.size))).1))
                  go_wp2_with fail
                  refine wp_region_z (fun w' => (w'.cell? ⟨w.heap.size, 2, none⟩ = some (.int .i64 (gi o 2)) ∧ w'.cell? ⟨w.heap.size, 3, none⟩ = some (.int .i64 (gi o 3)) ∧ w'.cell? ⟨w.heap.size, 4, none⟩ = some (.int .i64 (gi o 4)) ∧ w'.cell? ⟨w.heap.size, 5, none⟩ = some (.int .i64 (gi o 5))) ∧ w'.cell? ⟨pp1, po1, none⟩ = some (.slice pA1 (m.on (gi o 2) (gi o 3)).length pc1) ∧ w'.cell? ⟨pp2, po2, none⟩ = some (.slice pA2 (m.on (gi o 4) (gi o 5)).length pc2)) 16 (by kernel_rfl) (HKK.out _ b6.drew) (fun hH0 => ?_)
                  refine wpZ_take 0 18 (u := ?_) rfl (by kernel_rfl) (fun _ _ _ h => h) ⟨by rfl, ?_⟩ hH0 ?_
                  rotate_left
                  · intro w hSw; (try dsimp only at hSw); go_simp; (first | done | with_reducible rfl)
                  try simp only [Act.put, sb1, sb2, sb3]
                  refine wpZ_take 1 18 (u := ?_) rfl (by kernel_rfl) (fun _ _ _ h => h) ⟨by rfl, ?_⟩ hH0 ?_
                  rotate_left
                  · intro w hSw; (try dsimp only at hSw); go_simp; (first | done | with_reducible rfl)
                  try simp only [Act.put, sb1, sb2, sb3]
                  refine wpZ_take 2 18 (u := ?_) rfl (by kernel_rfl) (fun _ _ _ h => h) ⟨by rfl, ?_⟩ hH0 ?_
                  rotate_left
                  · intro w hSw; (try dsimp only at hSw); go_simp; (first | done | with_reducible rfl)
                  try simp only [Act.put, sb1, sb2, sb3]
                  refine wpZ_take 7 18 (u := ?_) rfl (by kernel_rfl) (fun _ _ _ h => h) ⟨by rfl, ?_⟩ hH0 ?_
                  rotate_left
                  · intro w hSw; (try dsimp only at hSw); go_simp; (first | done | with_reducible rfl)
                  try simp only [Act.put, sb1, sb2, sb3]
                  refine wpZ_take 8 18 (u := ?_) rfl (by kernel_rfl) (fun _ _ _ h => h) ⟨by rfl, ?_⟩ hH0 ?_
                  rotate_left
                  · intro w hSw; (try dsimp only at hSw); go_simp; (first | done | with_reducible rfl)
                  try simp only [Act.put, sb1, sb2, sb3]
                  refine wpZ_take 9 18 (u := ?_) rfl (by kernel_rfl) (fun _ _ _ h => h) ⟨by rfl, ?_⟩ hH0 ?_
                  rotate_left
                  · intro w hSw; (try dsimp only at hSw); go_simp; (first | done | with_reducible rfl)
                  try simp only [Act.put, sb1, sb2, sb3]
                  refine wpZ_only 3 rfl (by kernel_rfl) (by rfl) (fun K hK => ?_)
                  go_simp
                  go_at_call 91
                  refine (ON1.out _ (HB1.out.trans (b6.drew.mono HB1.out.size))).2.2.mono ?_
                  rintro e w7 ⟨rfl, hq⟩
                  have b7 : Below (w.alloc (.cells #[.int .i64 (gi o 0), .int .i64 (gi o 1), .int .i64 (gi o 2), .int .i64 (gi o 3), .int .i64 (gi o 4), .int .i64 (gi o 5), .int .i64 (gi o 6), .int .i64 (gi o 7)] 38)).heap.size (w.alloc (.cells #[.int .i64 (gi o 0), .int .i64 (gi o 1), .int .i64 (gi o 2), .int .i64 (gi o 3), .int .i64 (gi o 4), .int .i64 (gi o 5), .int .i64 (gi o 6), .int .i64 (gi o 7)] 38)) w7 := b6.drew.trans (hq.mono b6.drew.size)
                  go_wp2_with fail
                  refine hK.out _ _ ?_ (fun hH1 => ?_)
                  · exact HKK.out _ b7
                  clear hK K hH0
                  try simp only [Act.put, sb1, sb2, sb3]
                  refine wpZ_take 4 18 (u := ?_) rfl (by kernel_rfl) (fun _ _ _ h => h) ⟨by rfl, ?_⟩ hH1 ?_
                  rotate_left
                  · intro w hSw; (try dsimp only at hSw); go_simp; (first | done | with_reducible rfl)
                  try simp only [Act.put, sb1, sb2, sb3]
                  refine wpZ_take 5 18 (u := ?_) rfl (by kernel_rfl) (fun _ _ _ h => h) ⟨by rfl, ?_⟩ hH1 ?_
                  rotate_left
                  · intro w hSw; (try dsimp only at hSw); go_simp; (first | done | with_reducible rfl)
                  try simp only [Act.put, sb1, sb2, sb3]
                  refine wpZ_take 6 18 (u := ?_) rfl (by kernel_rfl) (fun _ _ _ h => h) ⟨by rfl, ?_⟩ hH1 ?_
                  rotate_left
                  · intro w hSw; (try dsimp only at hSw); go_simp; (first | done | with_reducible rfl)
                  try simp only [Act.put, sb1, sb2, sb3]
                  refine wpZ_only 10 rfl (by kernel_rfl) (by rfl) (fun K hK => ?_)
                  go_simp
                  go_at_call 91
                  refine (ON2.out _ (HB1.out.trans (b7.mono HB1.out.size))).2.2.mono ?_
                  rintro e w8 ⟨rfl, hq2⟩
                  have b8 : Below (w.alloc (.cells #[.int .i64 (gi o 0), .int .i64 (gi o 1), .int .i64 (gi o 2), .int .i64 (gi o 3), .int .i64 (gi o 4), .int .i64 (gi o 5), .int .i64 (gi o 6), .int .i64 (gi o 7)] 38)).heap.size (w.alloc (.cells #[.int .i64 (gi o 0), .int .i64 (gi o 1), .int .i64 (gi o 2), .int .i64 (gi o 3), .int .i64 (gi o 4), .int .i64 (gi o 5), .int .i64 (gi o 6), .int .i64 (gi o 7)] 38)) w8 := b7.trans (hq2.mono b7.size)
                  go_wp2_with fail
                  refine hK.out _ _ ?_ (fun hH2 => ?_)
                  · exact HKK.out _ b8
                  clear hK K hH1
                  try simp only [Act.put, sb1, sb2, sb3]
                  refine wpZ_take 11 18 (u := ?_) rfl (by kernel_rfl) (fun _ _ _ h => h) ⟨by rfl, ?_⟩ hH2 ?_
                  rotate_left
                  · intro w hSw; (try dsimp only at hSw); go_simp; (first | done | with_reducible rfl)
                  try simp only [Act.put, sb1, sb2, sb3]
                  refine wpZ_take 12 18 (u := ?_) rfl (by kernel_rfl) (fun _ _ _ h => h) ⟨by rfl, ?_⟩ hH2 ?_
                  rotate_left
                  · intro w hSw; (try dsimp only at hSw); go_simp; (first | done | with_reducible rfl)
                  try simp only [Act.put, sb1, sb2, sb3]
                  refine wpZ_take 13 18 (u := ?_) rfl (by kernel_rfl) (fun _ _ _ h => h) ⟨by rfl, ?_⟩ hH2 ?_
                  rotate_left
                  · intro w hSw; (try dsimp only at hSw); go_simp; (first | done | with_reducible rfl)
                  try simp only [Act.put, sb1, sb2, sb3]
                  refine wpZ_take 14 18 (u := ?_) rfl (by kernel_rfl) (fun _ _ _ h => h) ⟨by rfl, ?_⟩ hH2 ?_
                  rotate_left
                  · intro w hSw; (try dsimp only at hSw); go_simp; (first | done | with_reducible rfl)
                  try simp only [Act.put, sb1, sb2, sb3]
                  refine wpZ_take 15 18 (u := ?_) rfl (by kernel_rfl) (fun _ _ _ h => h) ⟨by rfl, ?_⟩ hH2 ?_
                  rotate_left
                  · intro w hSw; (try dsimp only at hSw); go_simp; (first | done | with_reducible rfl)
                  try simp only [Act.put, sb1, sb2, sb3]
                  refine wpZ_last rfl (by kernel_rfl) (by kernel_rfl) (by rfl) (fun K hK => ?_)
                  go_simp
                  refine hK.out _ _ ?_
                  clear hK K hH2
                  by_cases h9 : 4 < (m.on (gi o 2) (gi o 3)).length + (m.on (gi o 4) (gi o 5)).length
                  · have h9I : ((m.on (gi o 2) (gi o 3)).length : Int) + (m.on (gi o 4) (gi o 5)).length > 4 := by omega
                    have HT : Hid (opC m o = 5) := Lib.hid (by rw [HMV.out]; exact mvC_full HFF.out h4 h9)
                    go_wp2
                    go_ret
                    exact ⟨ret_int HT.out.symm, HB1.out.trans (b8.mono HB1.out.size)⟩
                  · have h9I : ¬ ((m.on (gi o 2) (gi o 3)).length : Int) + (m.on (gi o 4) (gi o 5)).length > 4 := by omega
                    have HT : Hid (opC m o = 0) := Lib.hid (by rw [HMV.out]; exact mvC_ok HFF.out h4 h9)
                    go_wp2
                    go_ret
                    exact ⟨ret_int HT.out.symm, HB1.out.trans (b8.mono HB1.out.size)⟩
              · have HT : Hid (opC m o = 8) := Lib.hid (by rw [HMV.out]; exact mvC_rack (fun q => hff q.2.2.2))
                rw [hin]
                clear hin HIN
                generalize faceM m o = X at *
                have hne : ¬ gi o 5 = X := fun q => hff q.symm
                go_wp2
                go_ret
                exact ⟨ret_int HT.out.symm, HB1.out.trans ((b4.trans ((al1 w4 _).mono b4.size)).mono HB1.out.size)⟩
            · have HT : Hid (opC m o = 8) := Lib.hid (by rw [HMV.out]; exact mvC_rack (fun q => hin (HIN.out.2 ⟨q.1, q.2.1⟩)))
              rw [Bool.not_eq_true] at hin
              rw [hin]
              clear hin HIN
              generalize faceM m o = X at *
              go_wp2
              go_ret
              exact ⟨ret_int HT.out.symm, HB1.out.trans ((b4.trans ((al1 w4 _).mono b4.size)).mono HB1.out.size)⟩
      · have h3l : gi o 3 < m.wd := by omega
        have h5l : gi o 5 < m.wd := by omega
        have HFI := Lib.hid (And.intro h3l h5l)
        have HKD := Lib.hid hk
        clear hk
        have hn1 : m.ndl (gi o 2) (gi o 3) := ⟨hb, q0, h3l⟩
        obtain ⟨pp1, po1, pA1, pc1, hl1, hon1⟩ := on_row HX.out HM.out hB HOK.out hn1
        have ON1 := Lib.hid hon1
        clear hon1
        have HOP : Hid (OpOk m o) := Lib.hid ⟨HO.out, h3l, h5l⟩
        clear hn1
        clear h3l h5l
        go_enter Tryz.func90, Tryz.ntmps90
        go_wp2_with fail
        go_quiet (fail)
        go_wp2_with fail
        clear h3 h5 q0 q1 q2 q3
        refine (HCF.out _ (below_drewN (Below.refl _ _) _) HOP.out).mono ?_
        rintro e w2 ⟨rfl, hq⟩
        clear g0
        have b2 : Below (w.alloc (.cells #[.int .i64 (gi o 0), .int .i64 (gi o 1), .int .i64 (gi o 2), .int .i64 (gi o 3), .int .i64 (gi o 4), .int .i64 (gi o 5), .int .i64 (gi o 6), .int .i64 (gi o 7)] 38)).heap.size (w.alloc (.cells #[.int .i64 (gi o 0), .int .i64 (gi o 1), .int .i64 (gi o 2), .int .i64 (gi o 3), .int .i64 (gi o 4), .int .i64 (gi o 5), .int .i64 (gi o 6), .int .i64 (gi o 7)] 38)) w2 := (below_drewN (Below.refl _ _) _).trans (hq.mono (Nat.le_refl _))
        clear hq
        obtain ⟨⟨c0, c1, c2, c3, c4, c5, c6, c7⟩, g0, g5⟩ := HK.out w2 b2
        rw [HKD.out] at c0
        cases hcf : cfB m o
        · have HT := Lib.hid (opC_cf HFI.out.1 HFI.out.2 hcf)
          clear hcf
          go_wp2
          go_ret
          exact ⟨ret_int HT.out.symm, HB1.out.trans (b2.mono HB1.out.size)⟩
        · have HC := Lib.hid hcf
          clear hcf
          go_wp2_with fail
          refine (mk_val (k := 6) (b := false) rfl _).mono ?_
          rintro e w3 ⟨rfl, rfl⟩
          go_wp2_with fail
          refine (ON1.out _ (HB1.out.trans (b2.mono HB1.out.size))).2.2.mono ?_
          rintro e w4 ⟨rfl, hq⟩
          clear c0 c1 c2 c3 c4 c5 c6 c7 g0 g5
          have b4 : Below (w.alloc (.cells #[.int .i64 (gi o 0), .int .i64 (gi o 1), .int .i64 (gi o 2), .int .i64 (gi o 3), .int .i64 (gi o 4), .int .i64 (gi o 5), .int .i64 (gi o 6), .int .i64 (gi o 7)] 38)).heap.size (w.alloc (.cells #[.int .i64 (gi o 0), .int .i64 (gi o 1), .int .i64 (gi o 2), .int .i64 (gi o 3), .int .i64 (gi o 4), .int .i64 (gi o 5), .int .i64 (gi o 6), .int .i64 (gi o 7)] 38)) w4 := b2.trans (hq.mono b2.size)
          clear hq
          have r4 := (ON1.out w4 (HB1.out.trans (b4.mono HB1.out.size))).1
          obtain ⟨⟨c0, c1, c2, c3, c4, c5, c6, c7⟩, g0, g5⟩ := HK.out w4 b4
          rw [HKD.out] at c0
          by_cases h4 : (m.on (gi o 2) (gi o 3)).length = 0
          · have HT := Lib.hid (opC_drop HFI.out.1 HFI.out.2 HC.out HKD.out h4)
            go_wp2
            go_ret
            exact ⟨ret_int HT.out.symm, HB1.out.trans (b4.mono HB1.out.size)⟩
          · have h4I : ¬ ((m.on (gi o 2) (gi o 3)).length : Int) = 0 := by omega
            have HT := Lib.hid (opC_zero HFI.out.1 HFI.out.2 HC.out (fun q => by have := q.1; rw [HKD.out] at this; revert this; decide) (fun q => by have := q.1; rw [HKD.out] at this; revert this; decide) (fun q => h4 q.2) ⟨by rw [HKD.out]; decide, by rw [HKD.out]; decide⟩)
            go_wp2
            go_ret
            exact ⟨ret_int HT.out.symm, HB1.out.trans (b4.mono HB1.out.size)⟩
      · have h3l : gi o 3 < m.wd := by omega
        have h5l : gi o 5 < m.wd := by omega
        have HFI := Lib.hid (And.intro h3l h5l)
        have HKD := Lib.hid hk
        clear hk
        have HOP : Hid (OpOk m o) := Lib.hid ⟨HO.out, h3l, h5l⟩
        clear h3l h5l
        go_enter Tryz.func90, Tryz.ntmps90
        go_wp2_with fail
        go_quiet (fail)
        go_wp2_with fail
        clear h3 h5 q0 q1 q2 q3
        refine (HCF.out _ (below_drewN (Below.refl _ _) _) HOP.out).mono ?_
        rintro e w2 ⟨rfl, hq⟩
        clear g0
        have b2 : Below (w.alloc (.cells #[.int .i64 (gi o 0), .int .i64 (gi o 1), .int .i64 (gi o 2), .int .i64 (gi o 3), .int .i64 (gi o 4), .int .i64 (gi o 5), .int .i64 (gi o 6), .int .i64 (gi o 7)] 38)).heap.size (w.alloc (.cells #[.int .i64 (gi o 0), .int .i64 (gi o 1), .int .i64 (gi o 2), .int .i64 (gi o 3), .int .i64 (gi o 4), .int .i64 (gi o 5), .int .i64 (gi o 6), .int .i64 (gi o 7)] 38)) w2 := (below_drewN (Below.refl _ _) _).trans (hq.mono (Nat.le_refl _))
        clear hq
        obtain ⟨⟨c0, c1, c2, c3, c4, c5, c6, c7⟩, g0, g5⟩ := HK.out w2 b2
        rw [HKD.out] at c0
        cases hcf : cfB m o
        · have HT := Lib.hid (opC_cf HFI.out.1 HFI.out.2 hcf)
          clear hcf
          go_wp2
          go_ret
          exact ⟨ret_int HT.out.symm, HB1.out.trans (b2.mono HB1.out.size)⟩
        · have HC := Lib.hid hcf
          clear hcf
          go_wp2_with fail
          refine (mk_val (k := 7) (b := false) rfl _).mono ?_
          rintro e w3 ⟨rfl, rfl⟩
          have HT := Lib.hid (opC_zero HFI.out.1 HFI.out.2 HC.out (fun q => by have := q.1; rw [HKD.out] at this; revert this; decide) (fun q => by have := q.1; rw [HKD.out] at this; revert this; decide) (fun q => by have := q.1; rw [HKD.out] at this; revert this; decide) ⟨by rw [HKD.out]; decide, by rw [HKD.out]; decide⟩)
          go_wp2
          go_ret
          exact ⟨ret_int HT.out.symm, HB1.out.trans (b2.mono HB1.out.size)⟩
      · have h3l : gi o 3 < m.wd := by omega
        have h5l : gi o 5 < m.wd := by omega
        have HFI := Lib.hid (And.intro h3l h5l)
        have HKD := Lib.hid hk
        clear hk
        have HOP : Hid (OpOk m o) := Lib.hid ⟨HO.out, h3l, h5l⟩
        clear h3l h5l
        go_enter Tryz.func90, Tryz.ntmps90
        go_wp2_with fail
        go_quiet (fail)
        go_wp2_with fail
        clear h3 h5 q0 q1 q2 q3
        refine (HCF.out _ (below_drewN (Below.refl _ _) _) HOP.out).mono ?_
        rintro e w2 ⟨rfl, hq⟩
        clear g0
        have b2 : Below (w.alloc (.cells #[.int .i64 (gi o 0), .int .i64 (gi o 1), .int .i64 (gi o 2), .int .i64 (gi o 3), .int .i64 (gi o 4), .int .i64 (gi o 5), .int .i64 (gi o 6), .int .i64 (gi o 7)] 38)).heap.size (w.alloc (.cells #[.int .i64 (gi o 0), .int .i64 (gi o 1), .int .i64 (gi o 2), .int .i64 (gi o 3), .int .i64 (gi o 4), .int .i64 (gi o 5), .int .i64 (gi o 6), .int .i64 (gi o 7)] 38)) w2 := (below_drewN (Below.refl _ _) _).trans (hq.mono (Nat.le_refl _))
        clear hq
        obtain ⟨⟨c0, c1, c2, c3, c4, c5, c6, c7⟩, g0, g5⟩ := HK.out w2 b2
        rw [HKD.out] at c0
        cases hcf : cfB m o
        · have HT := Lib.hid (opC_cf HFI.out.1 HFI.out.2 hcf)
          clear hcf
          go_wp2
          go_ret
          exact ⟨ret_int HT.out.symm, HB1.out.trans (b2.mono HB1.out.size)⟩
        · have HC := Lib.hid hcf
          clear hcf
          go_wp2_with fail
          refine (mk_val (k := 8) (b := false) rfl _).mono ?_
          rintro e w3 ⟨rfl, rfl⟩
          have HT := Lib.hid (opC_zero HFI.out.1 HFI.out.2 HC.out (fun q => by have := q.1; rw [HKD.out] at this; revert this; decide) (fun q => by have := q.1; rw [HKD.out] at this; revert this; decide) (fun q => by have := q.1; rw [HKD.out] at this; revert this; decide) ⟨by rw [HKD.out]; decide, by rw [HKD.out]; decide⟩)
          go_wp2
          go_ret
          exact ⟨ret_int HT.out.symm, HB1.out.trans (b2.mono HB1.out.size)⟩
      · have h3l : gi o 3 < m.wd := by omega
        have h5l : gi o 5 < m.wd := by omega
        have HFI := Lib.hid (And.intro h3l h5l)
        have HKD := Lib.hid hk
        clear hk
        have HOP : Hid (OpOk m o) := Lib.hid ⟨HO.out, h3l, h5l⟩
        clear h3l h5l
        go_enter Tryz.func90, Tryz.ntmps90
        go_wp2_with fail
        go_quiet (fail)
        go_wp2_with fail
        clear h3 h5 q0 q1 q2 q3
        refine (HCF.out _ (below_drewN (Below.refl _ _) _) HOP.out).mono ?_
        rintro e w2 ⟨rfl, hq⟩
        clear g0
        have b2 : Below (w.alloc (.cells #[.int .i64 (gi o 0), .int .i64 (gi o 1), .int .i64 (gi o 2), .int .i64 (gi o 3), .int .i64 (gi o 4), .int .i64 (gi o 5), .int .i64 (gi o 6), .int .i64 (gi o 7)] 38)).heap.size (w.alloc (.cells #[.int .i64 (gi o 0), .int .i64 (gi o 1), .int .i64 (gi o 2), .int .i64 (gi o 3), .int .i64 (gi o 4), .int .i64 (gi o 5), .int .i64 (gi o 6), .int .i64 (gi o 7)] 38)) w2 := (below_drewN (Below.refl _ _) _).trans (hq.mono (Nat.le_refl _))
        clear hq
        obtain ⟨⟨c0, c1, c2, c3, c4, c5, c6, c7⟩, g0, g5⟩ := HK.out w2 b2
        rw [HKD.out] at c0
        cases hcf : cfB m o
        · have HT := Lib.hid (opC_cf HFI.out.1 HFI.out.2 hcf)
          clear hcf
          go_wp2
          go_ret
          exact ⟨ret_int HT.out.symm, HB1.out.trans (b2.mono HB1.out.size)⟩
        · have HC := Lib.hid hcf
          clear hcf
          go_wp2_with fail
          refine (mk_val (k := 9) (b := false) rfl _).mono ?_
          rintro e w3 ⟨rfl, rfl⟩
          have HT := Lib.hid (opC_zero HFI.out.1 HFI.out.2 HC.out (fun q => by have := q.1; rw [HKD.out] at this; revert this; decide) (fun q => by have := q.1; rw [HKD.out] at this; revert this; decide) (fun q => by have := q.1; rw [HKD.out] at this; revert this; decide) ⟨by rw [HKD.out]; decide, by rw [HKD.out]; decide⟩)
          go_wp2
          go_ret
          exact ⟨ret_int HT.out.symm, HB1.out.trans (b2.mono HB1.out.size)⟩
end Go.Proofs.YtgmppfhokfifgaaGreatDoor
