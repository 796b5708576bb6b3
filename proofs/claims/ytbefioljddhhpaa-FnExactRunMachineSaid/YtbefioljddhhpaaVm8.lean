/-
  Contracts: the program's OtherBed, facing, FacingOf, LoopsOn.
-/
import Derived.Test.YtbefioljddhhpaaVm7
import Derived.Test.YtbefioljddhhpaaSlib
import Derived.Deep.RegionHeld3
import Derived.IntWalk
import Derived.StillTailTactics
namespace Go.Proofs.Ytbefioljddhhpaa
set_option maxRecDepth 10000
open Go.RowKit

def faceP (m : Mac) (b a : Int) : Int := if b = 2 then a + m.rk else a - m.rk
theorem faceP_yes {m : Mac} {b a : Int} (h : b = 2) : faceP m b a = a + m.rk := if_pos h
theorem faceP_no {m : Mac} {b a : Int} (h : b ≠ 2) : faceP m b a = a - m.rk := if_neg h
set_option maxHeartbeats 800000 in
theorem OtherBed_any {b : Int} (w : World) (h : b = 1 ∨ b = 2) : Calls Try.prog 112 #[.int .i64 b] w fun e w' => e = .returned (.int .i64 (3 - b)) ∧ w = w' := by
  rcases h with rfl | rfl
  · go_enter Try.func112, Try.ntmps112
    go_wp2
    go_ret
    exact ⟨rfl, rfl⟩
  · go_enter Try.func112, Try.ntmps112
    go_wp2
    go_ret
    exact ⟨rfl, rfl⟩
theorem box2f {w : World} {g : Nat} {a b : Value} {t : TypeId} (h : w.heap[g]? = some (.cells #[a, b] t)) : w.cell? ⟨g, 0, none⟩ = some a ∧ w.cell? ⟨g, 1, none⟩ = some b ∧ w.frozen? ⟨g, 0, none⟩ = false ∧ w.frozen? ⟨g, 1, none⟩ = false ∧ g < w.heap.size := box2 h
theorem drew_at {w : World} {g : Nat} {o : Obj} (h : w.heap[g]? = some o) : w.drew.heap[g]? = some o := h
theorem alloc_keep {w : World} {g : Nat} {o : Obj} (h : w.heap[g]? = some o) (o' : Obj) : (w.alloc o').heap[g]? = some o := (Below.heap_alloc _ _ _ (heap_lt h)).trans h
theorem faceP_bd {m : Mac} {b a : Int} (h1 : 0 ≤ a ∧ a ≤ 23) (h2 : -3 ≤ m.rk ∧ m.rk ≤ 3) : -3 ≤ faceP m b a ∧ faceP m b a ≤ 26 := by unfold faceP; split <;> omega
theorem flip_same {P : Program} {f : FuncId} {args : Array Value} {w : World} {v : Value} (h : Calls P f args w fun e w' => e = .returned v ∧ w = w') : Calls P f args w fun e w' => e = .returned v ∧ w' = w := h.mono fun _ _ ⟨a, b⟩ => ⟨a, b.symm⟩
set_option maxHeartbeats 3200000 in
theorem facing_any {m : Mac} {f b c l d : Value} {g : Nat} {nb na : Int} {w : World} (hx : w.heap[g]? = some (.cells #[.int .i64 m.wd, .int .i64 m.rk, f, b, c, l, d] 27)) (hb : nb = 1 ∨ nb = 2) (ha : 0 ≤ na ∧ na ≤ 23) (hr : -3 ≤ m.rk ∧ m.rk ≤ 3) (hw : 1 ≤ m.wd ∧ m.wd ≤ 24) :
    Calls Try.prog 81 #[.pointer (some ⟨g, 0, none⟩), .agg #[.int .i64 nb, .int .i64 na]] w fun e w' => e = .returned (.tuple #[.agg #[.int .i64 (3 - nb), .int .i64 (faceP m nb na)], .bool (inR (faceP m nb na) 0 (m.wd - 1))]) ∧ Below w.heap.size w w' := by
  have HFB := Lib.hid (faceP_bd (b := nb) ha hr)
  obtain ⟨a0, a1⟩ := ha
  obtain ⟨r0, r1⟩ := hr
  obtain ⟨w0, w1⟩ := hw
  have hgl := heap_lt hx
  have X := Lib.hid hx
  obtain ⟨⟨p0, p1, -, -, -, -, -⟩, -, -⟩ := box7 hx
  clear hx
  rcases hb with rfl | rfl
  · have HP := Lib.hid (faceP_no (m := m) (b := 1) (a := na) (by omega))
    have hwr : IntKind.i64.wrap (na - m.rk) = na - m.rk := IntWalk.i64_in _ (by omega)
    go_enter Try.func81, Try.ntmps81
    go_wp2_with fail
    generalize hW : (w.alloc (.cells #[.int .i64 1, .int .i64 na] 45)).alloc (.cells #[.int .i64 0, .int .i64 0] 45) = w1
    have hb1 : Below w.heap.size w w1 := by rw [← hW]; exact al2 w _ _
    have hs1 : w.heap.size + 1 < w1.heap.size := by rw [← hW]; simp
    have x1 : w1.heap[w.heap.size]? = some (.cells #[.int .i64 1, .int .i64 na] 45) := by rw [← hW]; exact alloc_keep (alloc_at_ _ _) _
    have x2 : w1.heap[w.heap.size + 1]? = some (.cells #[.int .i64 0, .int .i64 0] 45) := by rw [← hW]; have := alloc_at_ (w.alloc (.cells #[.int .i64 1, .int .i64 na] 45)) (.cells #[.int .i64 0, .int .i64 0] 45); rw [World.size_alloc] at this; exact this
    have X1 := Lib.hid x1
    have X2 := Lib.hid x2
    have XG := Lib.hid (keep_fwd hb1 X.out)
    have HB1 := Lib.hid hb1
    have hg1 := hb1.size
    clear hW x1 x2 hb1 p0 p1
    obtain ⟨n0, n1, -, -, -⟩ := box2f X1.out
    obtain ⟨⟨-, g1, -, -, -, -, -⟩, -, -⟩ := box7 XG.out
    have HK := Lib.hid (fun w' (hw : Below w1.heap.size w1 w') => show (w'.cell? ⟨w.heap.size, 0, none⟩ = some (.int .i64 1) ∧ w'.cell? ⟨w.heap.size, 1, none⟩ = some (.int .i64 na) ∧ w'.cell? ⟨g, 1, none⟩ = some (.int .i64 m.rk)) ∧ Below w1.heap.size w1 w' from
      ⟨⟨by rw [hw.cell (by simp only; omega)]; exact n0, by rw [hw.cell (by simp only; omega)]; exact n1, by rw [hw.cell (by simp only; omega)]; exact g1⟩, hw⟩)
    go_region_held3 (fun w' => (w'.cell? ⟨w.heap.size, 0, none⟩ = some (.int .i64 1) ∧ w'.cell? ⟨w.heap.size, 1, none⟩ = some (.int .i64 na) ∧ w'.cell? ⟨g, 1, none⟩ = some (.int .i64 m.rk)) ∧ Below w1.heap.size w1 w') (exact HK.out _ (by first | assumption | go_grown))
      ((go_at_call 112; (refine (OtherBed_any _ (.inl rfl)).mono ?_); rintro e w' ⟨rfl, rfl⟩))
    all_goals
      try rw [hwr]
      generalize hW : (w1.alloc (.cells #[.int .i64 2, .int .i64 (na - m.rk)] 45)).drew = w2
      have hb2 : Below w1.heap.size w1 w2 := by rw [← hW]; exact (al1 w1 _).drew
      have hs2 : w1.heap.size < w2.heap.size := by rw [← hW]; simp
      have x3 : w2.heap[w1.heap.size]? = some (.cells #[.int .i64 2, .int .i64 (na - m.rk)] 45) := by rw [← hW]; exact alloc_at_ w1 _
      have X3 := Lib.hid x3
      have X4 := Lib.hid (keep_fwd hb2 X2.out)
      have XG2 := Lib.hid (keep_fwd hb2 XG.out)
      have HB2 := Lib.hid (HB1.out.trans (hb2.mono hg1))
      have n0' := (hb2.cell (p := ⟨w.heap.size, 0, none⟩) (by simp only; omega)).trans n0
      have hg2 := HB2.out.size
      clear hW x3 hb2 n0 n1 g1 HK hwr
      obtain ⟨q0, q1, -, -, -⟩ := box2f X3.out
      obtain ⟨⟨g0, -, -, -, -, -, -⟩, -, -⟩ := box7 XG2.out
      obtain ⟨c0, c1, f0, f1, -⟩ := box2f X4.out
      have hwr2 : IntKind.i64.wrap (m.wd - 1) = m.wd - 1 := IntWalk.i64_in _ (by omega)
      have hne1 : ¬ w.heap.size + 1 = w1.heap.size := by omega
      have hne2 : ¬ w.heap.size + 1 = g := by omega
      go_wp2_with fail
      go_region_held3 (fun w' => w'.cell? ⟨w1.heap.size, 0, none⟩ = some (.int .i64 2) ∧ w'.cell? ⟨w1.heap.size, 1, none⟩ = some (.int .i64 (na - m.rk)) ∧ w'.cell? ⟨g, 0, none⟩ = some (.int .i64 m.wd)) (go_keep)
        ((go_at_call 46; (refine (within_any _ _ _ _).mono ?_); rintro e w' ⟨rfl, rfl⟩))
      all_goals
        go_wp2_with fail
        refine bodyPost_ret (v := .tuple #[.agg #[.int .i64 2, .int .i64 (na - m.rk)], .bool (inR (na - m.rk) 0 (m.wd - 1))]) (by simp [results, Try.results81, go_sem, c0, c1]) rfl ⟨by rw [HP.out]; rfl, ?_⟩
        exact (setB (by simp only; omega) (setB (by simp only; omega) HB2.out)).drew
  · have HP := Lib.hid (faceP_yes (m := m) (b := 2) (a := na) (by omega))
    have hwr : IntKind.i64.wrap (na - m.rk) = na - m.rk := IntWalk.i64_in _ (by omega)
    go_enter Try.func81, Try.ntmps81
    go_wp2_with fail
    generalize hW : (w.alloc (.cells #[.int .i64 2, .int .i64 na] 45)).alloc (.cells #[.int .i64 0, .int .i64 0] 45) = w1
    have hb1 : Below w.heap.size w w1 := by rw [← hW]; exact al2 w _ _
    have hs1 : w.heap.size + 1 < w1.heap.size := by rw [← hW]; simp
    have x1 : w1.heap[w.heap.size]? = some (.cells #[.int .i64 2, .int .i64 na] 45) := by rw [← hW]; exact alloc_keep (alloc_at_ _ _) _
    have x2 : w1.heap[w.heap.size + 1]? = some (.cells #[.int .i64 0, .int .i64 0] 45) := by rw [← hW]; have := alloc_at_ (w.alloc (.cells #[.int .i64 2, .int .i64 na] 45)) (.cells #[.int .i64 0, .int .i64 0] 45); rw [World.size_alloc] at this; exact this
    have X1 := Lib.hid x1
    have X2 := Lib.hid x2
    have XG := Lib.hid (keep_fwd hb1 X.out)
    have HB1 := Lib.hid hb1
    have hg1 := hb1.size
    clear hW x1 x2 hb1 p0 p1
    obtain ⟨n0, n1, -, -, -⟩ := box2f X1.out
    obtain ⟨⟨-, g1, -, -, -, -, -⟩, -, -⟩ := box7 XG.out
    have HK := Lib.hid (fun w' (hw : Below w1.heap.size w1 w') => show (w'.cell? ⟨w.heap.size, 0, none⟩ = some (.int .i64 2) ∧ w'.cell? ⟨w.heap.size, 1, none⟩ = some (.int .i64 na) ∧ w'.cell? ⟨g, 1, none⟩ = some (.int .i64 m.rk)) ∧ Below w1.heap.size w1 w' from
      ⟨⟨by rw [hw.cell (by simp only; omega)]; exact n0, by rw [hw.cell (by simp only; omega)]; exact n1, by rw [hw.cell (by simp only; omega)]; exact g1⟩, hw⟩)
    go_region_held3 (fun w' => (w'.cell? ⟨w.heap.size, 0, none⟩ = some (.int .i64 2) ∧ w'.cell? ⟨w.heap.size, 1, none⟩ = some (.int .i64 na) ∧ w'.cell? ⟨g, 1, none⟩ = some (.int .i64 m.rk)) ∧ Below w1.heap.size w1 w') (exact HK.out _ (by first | assumption | go_grown))
      ((go_at_call 112; (refine (OtherBed_any _ (.inr rfl)).mono ?_); rintro e w' ⟨rfl, rfl⟩))
    all_goals
      try rw [hwr]
      generalize hW : (w1.alloc (.cells #[.int .i64 1, .int .i64 (na - m.rk)] 45)).drew = w2
      have hb2 : Below w1.heap.size w1 w2 := by rw [← hW]; exact (al1 w1 _).drew
      have hs2 : w1.heap.size < w2.heap.size := by rw [← hW]; simp
      have x3 : w2.heap[w1.heap.size]? = some (.cells #[.int .i64 1, .int .i64 (na - m.rk)] 45) := by rw [← hW]; exact alloc_at_ w1 _
      have X3 := Lib.hid x3
      have X4 := Lib.hid (keep_fwd hb2 X2.out)
      have XG2 := Lib.hid (keep_fwd hb2 XG.out)
      have HB2 := Lib.hid (HB1.out.trans (hb2.mono hg1))
      have n0' := (hb2.cell (p := ⟨w.heap.size, 0, none⟩) (by simp only; omega)).trans n0
      have hg2 := HB2.out.size
      have n1' := (hb2.cell (p := ⟨w.heap.size, 1, none⟩) (by simp only; omega)).trans n1
      clear hW x3 hb2 n0 n1 g1 HK hwr
      obtain ⟨q0, q1, -, k1, -⟩ := box2f X3.out
      obtain ⟨⟨g0, g1, -, -, -, -, -⟩, -, -⟩ := box7 XG2.out
      obtain ⟨c0, c1, f0, f1, -⟩ := box2f X4.out
      have hwr2 : IntKind.i64.wrap (m.wd - 1) = m.wd - 1 := IntWalk.i64_in _ (by omega)
      have hne1 : ¬ w.heap.size + 1 = w1.heap.size := by omega
      have hne2 : ¬ w.heap.size + 1 = g := by omega
      have hwr : IntKind.i64.wrap (na + m.rk) = na + m.rk := IntWalk.i64_in _ (by omega)
      have hne3 : ¬ w1.heap.size = w.heap.size := by omega
      have hne4 : ¬ w1.heap.size = g := by omega
      go_wp2_with fail
      go_region_held3 (fun w' => w'.cell? ⟨w.heap.size, 1, none⟩ = some (.int .i64 na) ∧ w'.cell? ⟨g, 1, none⟩ = some (.int .i64 m.rk)) (go_keep) (fail)
      generalize hW : (w2.setCell ⟨w1.heap.size, 1, none⟩ (.int .i64 (na + m.rk))).drew = w3
      have hs3 : w3.heap.size = w2.heap.size := by rw [← hW]; simp [World.setCell]
      have x3 : w3.heap[w1.heap.size]? = some (.cells #[.int .i64 1, .int .i64 (na + m.rk)] 45) := by rw [← hW]; exact heap_setCell_at (k := 1) _ X3.out
      have x4 : w3.heap[w.heap.size + 1]? = some (.cells #[.int .i64 0, .int .i64 0] 45) := by rw [← hW]; exact (Below.heap_setCell w2 _ _ _ (by simp only; omega)).trans X4.out
      have xg : w3.heap[g]? = some (.cells #[.int .i64 m.wd, .int .i64 m.rk, f, b, c, l, d] 27) := by rw [← hW]; exact (Below.heap_setCell w2 _ _ _ (by simp only; omega)).trans XG2.out
      have HB3 : Hid (Below w.heap.size w w3) := Lib.hid (by rw [← hW]; exact (setB (by simp only; omega) HB2.out).drew)
      clear hW q0 q1 g0 g1 c0 c1 f0 f1 n0' n1' k1 hwr
      obtain ⟨q0, q1, -, -, -⟩ := box2f x3
      obtain ⟨⟨g0, -, -, -, -, -, -⟩, -, -⟩ := box7 xg
      obtain ⟨c0, c1, f0, f1, -⟩ := box2f x4
      clear x3 x4 xg
      go_wp2_with fail
      go_region_held3 (fun w' => w'.cell? ⟨w1.heap.size, 0, none⟩ = some (.int .i64 1) ∧ w'.cell? ⟨w1.heap.size, 1, none⟩ = some (.int .i64 (na + m.rk)) ∧ w'.cell? ⟨g, 0, none⟩ = some (.int .i64 m.wd)) (go_keep)
        ((go_at_call 46; (refine (within_any _ _ _ _).mono ?_); rintro e w' ⟨rfl, rfl⟩))
      all_goals
        go_wp2_with fail
        refine bodyPost_ret (v := .tuple #[.agg #[.int .i64 1, .int .i64 (na + m.rk)], .bool (inR (na + m.rk) 0 (m.wd - 1))]) (by simp [results, Try.results81, go_sem, c0, c1]) rfl ⟨by rw [HP.out]; rfl, ?_⟩
        exact (setB (by simp only; omega) (setB (by simp only; omega) HB3.out)).drew
end Go.Proofs.Ytbefioljddhhpaa
