/-
  Contracts: the program's place, PlaceOf, facing, FacingOf, on, LoopsOn.
-/
import Derived.Test.YtgmppfhokfifgaaGreatDoorGpo
import Derived.Deep.RegionHeld3
import Derived.Test.YtgmppfhokfifgaaGreatDoorSlib
import Derived.IntWalk
import Derived.StillTailTactics
import Derived.Test.YtgmppfhokfifgaaGreatDoorOkd
namespace Go.Proofs.YtgmppfhokfifgaaGreatDoor
set_option maxRecDepth 10000
open Go.RowKit

theorem plc_yes {b a r : Int} (h : b = 2) : plc b a r = a + r := if_pos h
theorem plc_no {b a r : Int} (h : b ≠ 2) : plc b a r = a := if_neg h
theorem plc_bd {b a r : Int} (h1 : 0 ≤ a ∧ a ≤ 23) (h2 : -3 ≤ r ∧ r ≤ 3) : -3 ≤ plc b a r ∧ plc b a r ≤ 26 := by unfold plc; split <;> omega
set_option maxHeartbeats 800000 in
theorem iplace_any (b a r : Int) (w : World) (h1 : 0 ≤ a ∧ a ≤ 23) (h2 : -3 ≤ r ∧ r ≤ 3) : Calls Tryz.prog 96 #[.agg #[.int .i64 b, .int .i64 a], .int .i64 r] w fun e w' => e = .returned (.int .i64 (plc b a r)) ∧ Below w.heap.size w w' := by
  obtain ⟨a0, a1⟩ := h1
  obtain ⟨r0, r1⟩ := h2
  by_cases hb : b = 2
  · have HT := Lib.hid (plc_yes (a := a) (r := r) hb)
    subst hb
    go_enter Tryz.func96, Tryz.ntmps96
    go_wp2
    go_ret
    exact ⟨ret_int HT.out.symm, al1 _ _⟩
  · have hbb : (b == 2) = false := by simp [hb]
    have HT := Lib.hid (plc_no (a := a) (r := r) hb)
    clear hb
    go_enter Tryz.func96, Tryz.ntmps96
    go_wp2
    go_ret
    exact ⟨ret_int HT.out.symm, al1 _ _⟩
theorem cellBed {w : World} {g : Nat} {x0 x1 f b x4 x5 x6 : Value} {t : TypeId} (hx : w.heap[g]? = some (.cells #[x0, x1, f, b, x4, x5, x6] t)) : w.cell? ⟨g, 2, none⟩ = some f ∧ w.cell? ⟨g, 3, none⟩ = some b ∧ g < w.heap.size :=
  ⟨(box7 hx).1.2.2.1, (box7 hx).1.2.2.2.1, heap_lt hx⟩
set_option maxHeartbeats 1600000 in
theorem on_any {x0 x1 f b x4 x5 x6 : Value} {t : TypeId} {g : Nat} {bed a : Int} {p o n c k : Nat} {w : World} (hx : w.heap[g]? = some (.cells #[x0, x1, f, b, x4, x5, x6] t)) (hb : bed = 1 ∨ bed = 2) (ha : a = (k : Int)) (hk : k < n)
    (hs : (if bed = 2 then b else f) = .slice (some ⟨p, o, none⟩) n c) :
    Calls Tryz.prog 91 #[.pointer (some ⟨g, 0, none⟩), .agg #[.int .i64 bed, .int .i64 a]] w fun e w' => e = .returned (.pointer (some ⟨p, o + k, none⟩)) ∧ Below w.heap.size w w' := by
  obtain ⟨q2, q3, hg⟩ := cellBed hx
  subst ha
  have HA := Lib.hid (al1 w (.cells #[.int .i64 bed, .int .i64 k] 36))
  clear hx
  rcases hb with rfl | rfl
  · rw [if_neg (by omega)] at hs
    subst hs
    go_enter Tryz.func91, Tryz.ntmps91
    go_wp2_with fail
    go_quiet (fail)
    go_wp2
    go_ret
    exact ⟨rfl, below_drewN HA.out _⟩
  · rw [if_pos rfl] at hs
    subst hs
    go_enter Tryz.func91, Tryz.ntmps91
    go_wp2_with fail
    go_quiet (fail)
    go_wp2
    go_ret
    exact ⟨rfl, below_drewN HA.out _⟩
end Go.Proofs.YtgmppfhokfifgaaGreatDoor
/-
  Contracts: the program's OtherBed, facing, FacingOf, LoopsOn.
-/
namespace Go.Proofs.YtgmppfhokfifgaaGreatDoor
set_option maxRecDepth 10000
open Go.RowKit

def faceP (m : Mac) (b a : Int) : Int := if b = 2 then a + m.rk else a - m.rk
theorem faceP_yes {m : Mac} {b a : Int} (h : b = 2) : faceP m b a = a + m.rk := if_pos h
theorem faceP_no {m : Mac} {b a : Int} (h : b ≠ 2) : faceP m b a = a - m.rk := if_neg h
set_option maxHeartbeats 800000 in
theorem OtherBed_any {b : Int} (w : World) (h : b = 1 ∨ b = 2) : Calls Tryz.prog 154 #[.int .i64 b] w fun e w' => e = .returned (.int .i64 (3 - b)) ∧ w = w' := by
  rcases h with rfl | rfl
  · go_enter Tryz.func154, Tryz.ntmps154
    go_wp2
    go_ret
    exact ⟨rfl, rfl⟩
  · go_enter Tryz.func154, Tryz.ntmps154
    go_wp2
    go_ret
    exact ⟨rfl, rfl⟩
theorem box2f {w : World} {g : Nat} {a b : Value} {t : TypeId} (h : w.heap[g]? = some (.cells #[a, b] t)) : w.cell? ⟨g, 0, none⟩ = some a ∧ w.cell? ⟨g, 1, none⟩ = some b ∧ w.frozen? ⟨g, 0, none⟩ = false ∧ w.frozen? ⟨g, 1, none⟩ = false ∧ g < w.heap.size := box2 h
theorem alloc_keep {w : World} {g : Nat} {o : Obj} (h : w.heap[g]? = some o) (o' : Obj) : (w.alloc o').heap[g]? = some o := (Below.heap_alloc _ _ _ (heap_lt h)).trans h
theorem faceP_bd {m : Mac} {b a : Int} (h1 : 0 ≤ a ∧ a ≤ 23) (h2 : -3 ≤ m.rk ∧ m.rk ≤ 3) : -3 ≤ faceP m b a ∧ faceP m b a ≤ 26 := by unfold faceP; split <;> omega
set_option maxHeartbeats 3200000 in
theorem facing_any {m : Mac} {f b c l d : Value} {g : Nat} {nb na : Int} {w : World} (hx : w.heap[g]? = some (.cells #[.int .i64 m.wd, .int .i64 m.rk, f, b, c, l, d] 75)) (hb : nb = 1 ∨ nb = 2) (ha : 0 ≤ na ∧ na ≤ 23) (hr : -3 ≤ m.rk ∧ m.rk ≤ 3) (hw : 1 ≤ m.wd ∧ m.wd ≤ 24) :
    Calls Tryz.prog 130 #[.pointer (some ⟨g, 0, none⟩), .agg #[.int .i64 nb, .int .i64 na]] w fun e w' => e = .returned (.tuple #[.agg #[.int .i64 (3 - nb), .int .i64 (faceP m nb na)], .bool (inR (faceP m nb na) 0 (m.wd - 1))]) ∧ Below w.heap.size w w' := by
  have HFB := Lib.hid (faceP_bd (b := nb) ha hr)
  obtain ⟨a0, a1⟩ := ha
  obtain ⟨r0, r1⟩ := hr
  obtain ⟨w0, w1⟩ := hw
  have hgl := heap_lt hx
  have X := Lib.hid hx
  obtain ⟨⟨p0, p1, -, -, -, -, -⟩, -, -⟩ := box7 hx
  clear hx
  rcases hb with rfl | rfl
  · have HP := Lib.hid (faceP_no (m := m) (b := 1) (a := na) (by omega))
    have hwr : IntKind.i64.wrap (na - m.rk) = na - m.rk := IntWalk.i64_in _ (by omega)
    go_enter Tryz.func130, Tryz.ntmps130
    go_wp2_with fail
    generalize hW : (w.alloc (.cells #[.int .i64 1, .int .i64 na] 36)).alloc (.cells #[.int .i64 0, .int .i64 0] 36) = w1
    have hb1 : Below w.heap.size w w1 := by rw [← hW]; exact al2 w _ _
    have hs1 : w.heap.size + 1 < w1.heap.size := by rw [← hW]; simp
    have x1 : w1.heap[w.heap.size]? = some (.cells #[.int .i64 1, .int .i64 na] 36) := by rw [← hW]; exact alloc_keep (alloc_at_ _ _) _
    have x2 : w1.heap[w.heap.size + 1]? = some (.cells #[.int .i64 0, .int .i64 0] 36) := by rw [← hW]; have := alloc_at_ (w.alloc (.cells #[.int .i64 1, .int .i64 na] 36)) (.cells #[.int .i64 0, .int .i64 0] 36); rw [World.size_alloc] at this; exact this
    have X1 := Lib.hid x1
    have X2 := Lib.hid x2
    have XG := Lib.hid (keep_fwd hb1 X.out)
    have HB1 := Lib.hid hb1
    have hg1 := hb1.size
    clear hW x1 x2 hb1 p0 p1
    obtain ⟨n0, n1, -, -, -⟩ := box2f X1.out
    obtain ⟨⟨-, g1, -, -, -, -, -⟩, -, -⟩ := box7 XG.out
    have HK := Lib.hid (fun w' (hw : Below w1.heap.size w1 w') => show (w'.cell? ⟨w.heap.size, 0, none⟩ = some (.int .i64 1) ∧ w'.cell? ⟨w.heap.size, 1, none⟩ = some (.int .i64 na) ∧ w'.cell? ⟨g, 1, none⟩ = some (.int .i64 m.rk)) ∧ Below w1.heap.size w1 w' from
      ⟨⟨by rw [hw.cell (by simp only; omega)]; exact n0, by rw [hw.cell (by simp only; omega)]; exact n1, by rw [hw.cell (by simp only; omega)]; exact g1⟩, hw⟩)
    go_region_held3 (fun w' => (w'.cell? ⟨w.heap.size, 0, none⟩ = some (.int .i64 1) ∧ w'.cell? ⟨w.heap.size, 1, none⟩ = some (.int .i64 na) ∧ w'.cell? ⟨g, 1, none⟩ = some (.int .i64 m.rk)) ∧ Below w1.heap.size w1 w') (exact HK.out _ (by first | assumption | go_grown))
      ((go_at_call 154; (refine (OtherBed_any _ (.inl rfl)).mono ?_); rintro e w' ⟨rfl, rfl⟩))
    all_goals
      try rw [hwr]
      generalize hW : (w1.alloc (.cells #[.int .i64 2, .int .i64 (na - m.rk)] 36)).drew = w2
      have hb2 : Below w1.heap.size w1 w2 := by rw [← hW]; exact (al1 w1 _).drew
      have hs2 : w1.heap.size < w2.heap.size := by rw [← hW]; simp
      have x3 : w2.heap[w1.heap.size]? = some (.cells #[.int .i64 2, .int .i64 (na - m.rk)] 36) := by rw [← hW]; exact alloc_at_ w1 _
      have X3 := Lib.hid x3
      have X4 := Lib.hid (keep_fwd hb2 X2.out)
      have XG2 := Lib.hid (keep_fwd hb2 XG.out)
      have HB2 := Lib.hid (HB1.out.trans (hb2.mono hg1))
      have n0' := (hb2.cell (p := ⟨w.heap.size, 0, none⟩) (by simp only; omega)).trans n0
      have hg2 := HB2.out.size
      clear hW x3 hb2 n0 n1 g1 HK hwr
      obtain ⟨q0, q1, -, -, -⟩ := box2f X3.out
      obtain ⟨⟨g0, -, -, -, -, -, -⟩, -, -⟩ := box7 XG2.out
      obtain ⟨c0, c1, f0, f1, -⟩ := box2f X4.out
      have hwr2 : IntKind.i64.wrap (m.wd - 1) = m.wd - 1 := IntWalk.i64_in _ (by omega)
      have hne1 : ¬ w.heap.size + 1 = w1.heap.size := by omega
      have hne2 : ¬ w.heap.size + 1 = g := by omega
      go_wp2_with fail
      go_region_held3 (fun w' => w'.cell? ⟨w1.heap.size, 0, none⟩ = some (.int .i64 2) ∧ w'.cell? ⟨w1.heap.size, 1, none⟩ = some (.int .i64 (na - m.rk)) ∧ w'.cell? ⟨g, 0, none⟩ = some (.int .i64 m.wd)) (go_keep)
        ((go_at_call 45; (refine (within_any _ _ _ _).mono ?_); rintro e w' ⟨rfl, rfl⟩))
      all_goals
        go_wp2_with fail
        refine bodyPost_ret (v := .tuple #[.agg #[.int .i64 2, .int .i64 (na - m.rk)], .bool (inR (na - m.rk) 0 (m.wd - 1))]) (by simp [results, Tryz.results130, go_sem, c0, c1]) rfl ⟨by rw [HP.out]; rfl, ?_⟩
        exact (setB (by simp only; omega) (setB (by simp only; omega) HB2.out)).drew
  · have HP := Lib.hid (faceP_yes (m := m) (b := 2) (a := na) (by omega))
    have hwr : IntKind.i64.wrap (na - m.rk) = na - m.rk := IntWalk.i64_in _ (by omega)
    go_enter Tryz.func130, Tryz.ntmps130
    go_wp2_with fail
    generalize hW : (w.alloc (.cells #[.int .i64 2, .int .i64 na] 36)).alloc (.cells #[.int .i64 0, .int .i64 0] 36) = w1
    have hb1 : Below w.heap.size w w1 := by rw [← hW]; exact al2 w _ _
    have hs1 : w.heap.size + 1 < w1.heap.size := by rw [← hW]; simp
    have x1 : w1.heap[w.heap.size]? = some (.cells #[.int .i64 2, .int .i64 na] 36) := by rw [← hW]; exact alloc_keep (alloc_at_ _ _) _
    have x2 : w1.heap[w.heap.size + 1]? = some (.cells #[.int .i64 0, .int .i64 0] 36) := by rw [← hW]; have := alloc_at_ (w.alloc (.cells #[.int .i64 2, .int .i64 na] 36)) (.cells #[.int .i64 0, .int .i64 0] 36); rw [World.size_alloc] at this; exact this
    have X1 := Lib.hid x1
    have X2 := Lib.hid x2
    have XG := Lib.hid (keep_fwd hb1 X.out)
    have HB1 := Lib.hid hb1
    have hg1 := hb1.size
    clear hW x1 x2 hb1 p0 p1
    obtain ⟨n0, n1, -, -, -⟩ := box2f X1.out
    obtain ⟨⟨-, g1, -, -, -, -, -⟩, -, -⟩ := box7 XG.out
    have HK := Lib.hid (fun w' (hw : Below w1.heap.size w1 w') => show (w'.cell? ⟨w.heap.size, 0, none⟩ = some (.int .i64 2) ∧ w'.cell? ⟨w.heap.size, 1, none⟩ = some (.int .i64 na) ∧ w'.cell? ⟨g, 1, none⟩ = some (.int .i64 m.rk)) ∧ Below w1.heap.size w1 w' from
      ⟨⟨by rw [hw.cell (by simp only; omega)]; exact n0, by rw [hw.cell (by simp only; omega)]; exact n1, by rw [hw.cell (by simp only; omega)]; exact g1⟩, hw⟩)
    go_region_held3 (fun w' => (w'.cell? ⟨w.heap.size, 0, none⟩ = some (.int .i64 2) ∧ w'.cell? ⟨w.heap.size, 1, none⟩ = some (.int .i64 na) ∧ w'.cell? ⟨g, 1, none⟩ = some (.int .i64 m.rk)) ∧ Below w1.heap.size w1 w') (exact HK.out _ (by first | assumption | go_grown))
      ((go_at_call 154; (refine (OtherBed_any _ (.inr rfl)).mono ?_); rintro e w' ⟨rfl, rfl⟩))
    all_goals
      try rw [hwr]
      generalize hW : (w1.alloc (.cells #[.int .i64 1, .int .i64 (na - m.rk)] 36)).drew = w2
      have hb2 : Below w1.heap.size w1 w2 := by rw [← hW]; exact (al1 w1 _).drew
      have hs2 : w1.heap.size < w2.heap.size := by rw [← hW]; simp
      have x3 : w2.heap[w1.heap.size]? = some (.cells #[.int .i64 1, .int .i64 (na - m.rk)] 36) := by rw [← hW]; exact alloc_at_ w1 _
      have X3 := Lib.hid x3
      have X4 := Lib.hid (keep_fwd hb2 X2.out)
      have XG2 := Lib.hid (keep_fwd hb2 XG.out)
      have HB2 := Lib.hid (HB1.out.trans (hb2.mono hg1))
      have n0' := (hb2.cell (p := ⟨w.heap.size, 0, none⟩) (by simp only; omega)).trans n0
      have hg2 := HB2.out.size
      have n1' := (hb2.cell (p := ⟨w.heap.size, 1, none⟩) (by simp only; omega)).trans n1
      clear hW x3 hb2 n0 n1 g1 HK hwr
      obtain ⟨q0, q1, -, k1, -⟩ := box2f X3.out
      obtain ⟨⟨g0, g1, -, -, -, -, -⟩, -, -⟩ := box7 XG2.out
      obtain ⟨c0, c1, f0, f1, -⟩ := box2f X4.out
      have hwr2 : IntKind.i64.wrap (m.wd - 1) = m.wd - 1 := IntWalk.i64_in _ (by omega)
      have hne1 : ¬ w.heap.size + 1 = w1.heap.size := by omega
      have hne2 : ¬ w.heap.size + 1 = g := by omega
      have hwr : IntKind.i64.wrap (na + m.rk) = na + m.rk := IntWalk.i64_in _ (by omega)
      have hne3 : ¬ w1.heap.size = w.heap.size := by omega
      have hne4 : ¬ w1.heap.size = g := by omega
      go_wp2_with fail
      go_region_held3 (fun w' => w'.cell? ⟨w.heap.size, 1, none⟩ = some (.int .i64 na) ∧ w'.cell? ⟨g, 1, none⟩ = some (.int .i64 m.rk)) (go_keep) (fail)
      generalize hW : (w2.setCell ⟨w1.heap.size, 1, none⟩ (.int .i64 (na + m.rk))).drew = w3
      have hs3 : w3.heap.size = w2.heap.size := by rw [← hW]; simp [World.setCell]
      have x3 : w3.heap[w1.heap.size]? = some (.cells #[.int .i64 1, .int .i64 (na + m.rk)] 36) := by rw [← hW]; exact heap_setCell_at (k := 1) _ X3.out
      have x4 : w3.heap[w.heap.size + 1]? = some (.cells #[.int .i64 0, .int .i64 0] 36) := by rw [← hW]; exact (Below.heap_setCell w2 _ _ _ (by simp only; omega)).trans X4.out
      have xg : w3.heap[g]? = some (.cells #[.int .i64 m.wd, .int .i64 m.rk, f, b, c, l, d] 75) := by rw [← hW]; exact (Below.heap_setCell w2 _ _ _ (by simp only; omega)).trans XG2.out
      have HB3 : Hid (Below w.heap.size w w3) := Lib.hid (by rw [← hW]; exact (setB (by simp only; omega) HB2.out).drew)
      clear hW q0 q1 g0 g1 c0 c1 f0 f1 n0' n1' k1 hwr
      obtain ⟨q0, q1, -, -, -⟩ := box2f x3
      obtain ⟨⟨g0, -, -, -, -, -, -⟩, -, -⟩ := box7 xg
      obtain ⟨c0, c1, f0, f1, -⟩ := box2f x4
      clear x3 x4 xg
      go_wp2_with fail
      go_region_held3 (fun w' => w'.cell? ⟨w1.heap.size, 0, none⟩ = some (.int .i64 1) ∧ w'.cell? ⟨w1.heap.size, 1, none⟩ = some (.int .i64 (na + m.rk)) ∧ w'.cell? ⟨g, 0, none⟩ = some (.int .i64 m.wd)) (go_keep)
        ((go_at_call 45; (refine (within_any _ _ _ _).mono ?_); rintro e w' ⟨rfl, rfl⟩))
      all_goals
        go_wp2_with fail
        refine bodyPost_ret (v := .tuple #[.agg #[.int .i64 1, .int .i64 (na + m.rk)], .bool (inR (na + m.rk) 0 (m.wd - 1))]) (by simp [results, Tryz.results130, go_sem, c0, c1]) rfl ⟨by rw [HP.out]; rfl, ?_⟩
        exact (setB (by simp only; omega) (setB (by simp only; omega) HB3.out)).drew
end Go.Proofs.YtgmppfhokfifgaaGreatDoor
/-
  Contracts: the reference's ValidMachine, l07Place, PlaceOf.
-/
namespace Go.Proofs.YtgmppfhokfifgaaGreatDoor
set_option maxRecDepth 10000
open Go.RowKit

set_option maxHeartbeats 800000 in
theorem l07Place_any (b a r : Int) (w : World) (h1 : 0 ≤ a ∧ a ≤ 23) (h2 : -3 ≤ r ∧ r ≤ 3) : Calls Tryz.prog 111 #[.agg #[.int .i64 b, .int .i64 a], .int .i64 r] w fun e w' => e = .returned (.int .i64 (plc b a r)) ∧ Below w.heap.size w w' := by
  obtain ⟨a0, a1⟩ := h1
  obtain ⟨r0, r1⟩ := h2
  by_cases hb : b = 2
  · have HT := Lib.hid (plc_yes (a := a) (r := r) hb)
    subst hb
    go_enter Tryz.func111, Tryz.ntmps111
    go_wp2
    go_ret
    exact ⟨ret_int HT.out.symm, al1 _ _⟩
  · have hbb : (b == 2) = false := by simp [hb]
    have HT := Lib.hid (plc_no (a := a) (r := r) hb)
    clear hb
    go_enter Tryz.func111, Tryz.ntmps111
    go_wp2
    go_ret
    exact ⟨ret_int HT.out.symm, al1 _ _⟩
end Go.Proofs.YtgmppfhokfifgaaGreatDoor
/-
  Contracts: LoopsOn of the program and of the reference.
-/
namespace Go.Proofs.YtgmppfhokfifgaaGreatDoor
set_option maxRecDepth 10000
open Go.RowKit

/-- The bed of a machine in memory, and the loops on one of its needles. -/
theorem SlM.bed {w : World} {B : Nat} {f b c l d : Value} {m : Mac} (h : SlM w B f b c l d m) (bed : Int) : SlS w B (if bed = 2 then b else f) (m.sd bed) := by
  unfold Mac.sd; split
  · exact h.bk
  · exact h.fr
theorem SlM.at_ {w : World} {B : Nat} {f b c l d : Value} {m : Mac} (h : SlM w B f b c l d m) {bed a : Int} (ha : a.toNat < (m.sd bed).length) :
    ∃ p o n cap u, (if bed = 2 then b else f) = .slice (some ⟨p, o, none⟩) n cap ∧ n = (m.sd bed).length ∧ w.cell? ⟨p, o + a.toNat, none⟩ = some u ∧ Sl w B u (m.on bed a) := by
  obtain ⟨A, cap, e, h2, h3, h4, h5⟩ := h.bed bed
  obtain ⟨p, o, rfl, hb, hc⟩ := h5 (by omega)
  obtain ⟨u, hu, hs⟩ := hc a.toNat ha
  exact ⟨p, o, _, cap, u, e, rfl, hu, hs⟩
set_option maxHeartbeats 800000 in
theorem l07Bed_any {x0 x1 f b x4 x5 x6 : Value} {t : TypeId} {g : Nat} {bed : Int} {w : World} (hx : w.heap[g]? = some (.cells #[x0, x1, f, b, x4, x5, x6] t)) (hb : bed = 1 ∨ bed = 2) :
    Calls Tryz.prog 147 #[.pointer (some ⟨g, 0, none⟩), .int .i64 bed] w fun e w' => e = .returned (if bed = 2 then b else f) ∧ w = w' := by
  obtain ⟨q2, q3, hg⟩ := cellBed hx
  clear hx
  rcases hb with rfl | rfl
  · rw [if_neg (by omega)]
    go_enter Tryz.func147, Tryz.ntmps147
    go_wp2
    go_ret
    exact ⟨rfl, rfl⟩
  · rw [if_pos rfl]
    go_enter Tryz.func147, Tryz.ntmps147
    go_wp2
    go_ret
    exact ⟨rfl, rfl⟩
set_option maxHeartbeats 1600000 in
theorem l07On_any {x0 x1 f b x4 x5 x6 : Value} {t : TypeId} {g : Nat} {bed : Int} {p o n c k : Nat} {u : Value} {w : World} (hx : w.heap[g]? = some (.cells #[x0, x1, f, b, x4, x5, x6] t)) (hb : bed = 1 ∨ bed = 2) (hk : k < n)
    (hs : (if bed = 2 then b else f) = .slice (some ⟨p, o, none⟩) n c) (hu : w.cell? ⟨p, o + k, none⟩ = some u) :
    Calls Tryz.prog 120 #[.pointer (some ⟨g, 0, none⟩), .agg #[.int .i64 bed, .int .i64 k]] w fun e w' => e = .returned u ∧ Below w.heap.size w w' := by
  have hlt := block_lt_of_cell hu
  have HX0 := Lib.hid hx
  have HU0 := Lib.hid hu
  have HB := Lib.hid hb
  have HS := Lib.hid hs
  clear hx hu hs hb
  go_enter Tryz.func120, Tryz.ntmps120
  go_wp2_with fail
  generalize hW : w.alloc (.cells #[.int .i64 bed, .int .i64 k] 36) = W
  have ha : Below w.heap.size w W := by rw [← hW]; exact al1 w _
  have x1 : W.heap[w.heap.size]? = some (.cells #[.int .i64 bed, .int .i64 k] 36) := by rw [← hW]; exact alloc_at_ w _
  have hu1 := (ha.cell (p := ⟨p, o + k, none⟩) hlt).trans HU0.out
  have HX := Lib.hid (keep_fwd ha HX0.out)
  have HA := Lib.hid ha
  obtain ⟨y0, y1, -, -, -⟩ := box2f x1
  clear x1 ha hW
  have hs : (if bed = 2 then b else f) = .slice (some ⟨p, o, none⟩) n c := HS.out
  have hBed : ∀ W', W'.heap[g]? = W.heap[g]? → Calls Tryz.prog 147 #[.pointer (some ⟨g, 0, none⟩), .int .i64 bed] W' fun e w' => e = .returned (.slice (some ⟨p, o, none⟩) n c) ∧ W' = w' := fun W' h => by
    rw [← hs]; exact l07Bed_any (h.trans HX.out) HB.out
  have HBED := Lib.hid hBed
  clear hs hBed
  go_quiet (first | (go_at_call 147; first | exact quiet_same_on (HBED.out _ rfl) | exact quiet_same_at (HBED.out _ rfl) | exact quiet_same (HBED.out _ rfl)))
  go_wp2_with fail
  go_ret
  exact ⟨rfl, below_drewN HA.out _⟩
end Go.Proofs.YtgmppfhokfifgaaGreatDoor
