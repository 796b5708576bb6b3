/-
  Proved here: for every input the law FnExactNewMachine returns true, and every argument reads behind the call as it read before. No condition.
-/
import Derived.Test.YtbefioljddhhpaaOpen
import Derived.Test.YtbefioljddhhpaaMac3
import Derived.Test.YtbefioljddhhpaaMn3
import Derived.ProofKit
import Derived.OpenShut
import Derived.ShutString
import Derived.ChangeOld
import Derived.Below
import Derived.Deep.RegionHeld3
import Derived.Deep.DeepCutAuto
namespace Go.Proofs.Ytbefioljddhhpaa.fnExactNewMachine
set_option maxRecDepth 10000
open Go.ChangeShapes Go.WideShapes Go.ChangeAt Go.RowKit
open Go.ChangeMaps (open_string shut_string)
set_option linter.unusedVariables false

set_option maxRecDepth 100000 in
set_option maxHeartbeats 4000000 in
theorem walk (a : Int) (w : World) (b0 : R64 a) :
    Calls Try.prog 3 #[.int .i64 a] w fun e w' => e = .returned (.bool true) ∧ Below w.heap.size w w' := by
  have hA0 : Below w.heap.size w w := (Below.refl w.heap.size w)
  have hB0 : w.heap.size ≤ w.heap.size := hA0.size
  have hb0 := Below.refl w.heap.size w
  have hS0 : Hs w w.heap.size [] := Hs.nil _
  go_enter Try.func3, Try.ntmps3
  go_wp2_with fail
  refine (spec_NewMachine_any a _).mono ?_
  rintro e w1 ⟨q1_0f, q1_0b, q1_0c, q1_0l, q1_0d, rfl, ho1, hq⟩
  have hb1 := hb0.trans (hq.mono hb0.size)
  have hS1 := hS0.join hq ho1
  clear hb0 hS0 hq ho1
  obtain ⟨A1_0f, c1_0f, rfl, -⟩ := id (Hs.rdM [] [] hS1).fr
  obtain ⟨A1_0b, c1_0b, rfl, -⟩ := id (Hs.rdM [] [] hS1).bk
  obtain ⟨A1_0c, c1_0c, rfl, -⟩ := id (Hs.rdM [] [] hS1).cr.cells
  obtain ⟨A1_0l, c1_0l, rfl, -⟩ := id (Hs.rdM [] [] hS1).lp.cells
  obtain ⟨A1_0d, c1_0d, rfl, -⟩ := id (Hs.rdM [] [] hS1).dr
  go_wp2_with fail
  have hS1b1 := hS1.join (al1 _ _) (hs_bx w1 #[.int .i64 ((nmR a).wd), .int .i64 ((nmR a).rk), (.slice A1_0f (nmR a).fr.length c1_0f), (.slice A1_0b (nmR a).bk.length c1_0b), (.slice A1_0c (nmR a).cr.length c1_0c), (.slice A1_0l (nmR a).lp.length c1_0l), (.slice A1_0d (nmR a).dr.length c1_0d)] 27)
  have hb1b1 := hb1.trans ((al1 w1 (.cells #[.int .i64 ((nmR a).wd), .int .i64 ((nmR a).rk), (.slice A1_0f (nmR a).fr.length c1_0f), (.slice A1_0b (nmR a).bk.length c1_0b), (.slice A1_0c (nmR a).cr.length c1_0c), (.slice A1_0l (nmR a).lp.length c1_0l), (.slice A1_0d (nmR a).dr.length c1_0d)] 27)).mono hb1.size)
  clear hb1 hS1
  generalize hg1b1 : w1.heap.size = g1b1 at *
  generalize hw1b1 : w1.alloc (.cells #[.int .i64 ((nmR a).wd), .int .i64 ((nmR a).rk), (.slice A1_0f (nmR a).fr.length c1_0f), (.slice A1_0b (nmR a).bk.length c1_0b), (.slice A1_0c (nmR a).cr.length c1_0c), (.slice A1_0l (nmR a).lp.length c1_0l), (.slice A1_0d (nmR a).dr.length c1_0d)] 27) = w2 at *
  clear hg1b1 hw1b1
  have hS2 := hS1b1
  have hb2 := hb1b1
  clear hS1b1 hb1b1
  refine (impl_NewMachine_any a _).mono ?_
  rintro e w3 ⟨q3_0f, q3_0b, q3_0c, q3_0l, q3_0d, rfl, ho3, hq⟩
  have hb3 := hb2.trans (hq.mono hb2.size)
  have hS3 := hS2.join hq ho3
  clear hb2 hS2 hq ho3
  obtain ⟨A3_0f, c3_0f, rfl, -⟩ := id (Hs.rdM [mac_ ((.slice A1_0f (nmR a).fr.length c1_0f)) ((.slice A1_0b (nmR a).bk.length c1_0b)) ((.slice A1_0c (nmR a).cr.length c1_0c)) ((.slice A1_0l (nmR a).lp.length c1_0l)) ((.slice A1_0d (nmR a).dr.length c1_0d)) (nmR a), bx_ g1b1 #[.int .i64 ((nmR a).wd), .int .i64 ((nmR a).rk), (.slice A1_0f (nmR a).fr.length c1_0f), (.slice A1_0b (nmR a).bk.length c1_0b), (.slice A1_0c (nmR a).cr.length c1_0c), (.slice A1_0l (nmR a).lp.length c1_0l), (.slice A1_0d (nmR a).dr.length c1_0d)] 27] [] hS3).fr
  obtain ⟨A3_0b, c3_0b, rfl, -⟩ := id (Hs.rdM [mac_ ((.slice A1_0f (nmR a).fr.length c1_0f)) ((.slice A1_0b (nmR a).bk.length c1_0b)) ((.slice A1_0c (nmR a).cr.length c1_0c)) ((.slice A1_0l (nmR a).lp.length c1_0l)) ((.slice A1_0d (nmR a).dr.length c1_0d)) (nmR a), bx_ g1b1 #[.int .i64 ((nmR a).wd), .int .i64 ((nmR a).rk), (.slice A1_0f (nmR a).fr.length c1_0f), (.slice A1_0b (nmR a).bk.length c1_0b), (.slice A1_0c (nmR a).cr.length c1_0c), (.slice A1_0l (nmR a).lp.length c1_0l), (.slice A1_0d (nmR a).dr.length c1_0d)] 27] [] hS3).bk
  obtain ⟨A3_0c, c3_0c, rfl, -⟩ := id (Hs.rdM [mac_ ((.slice A1_0f (nmR a).fr.length c1_0f)) ((.slice A1_0b (nmR a).bk.length c1_0b)) ((.slice A1_0c (nmR a).cr.length c1_0c)) ((.slice A1_0l (nmR a).lp.length c1_0l)) ((.slice A1_0d (nmR a).dr.length c1_0d)) (nmR a), bx_ g1b1 #[.int .i64 ((nmR a).wd), .int .i64 ((nmR a).rk), (.slice A1_0f (nmR a).fr.length c1_0f), (.slice A1_0b (nmR a).bk.length c1_0b), (.slice A1_0c (nmR a).cr.length c1_0c), (.slice A1_0l (nmR a).lp.length c1_0l), (.slice A1_0d (nmR a).dr.length c1_0d)] 27] [] hS3).cr.cells
  obtain ⟨A3_0l, c3_0l, rfl, -⟩ := id (Hs.rdM [mac_ ((.slice A1_0f (nmR a).fr.length c1_0f)) ((.slice A1_0b (nmR a).bk.length c1_0b)) ((.slice A1_0c (nmR a).cr.length c1_0c)) ((.slice A1_0l (nmR a).lp.length c1_0l)) ((.slice A1_0d (nmR a).dr.length c1_0d)) (nmR a), bx_ g1b1 #[.int .i64 ((nmR a).wd), .int .i64 ((nmR a).rk), (.slice A1_0f (nmR a).fr.length c1_0f), (.slice A1_0b (nmR a).bk.length c1_0b), (.slice A1_0c (nmR a).cr.length c1_0c), (.slice A1_0l (nmR a).lp.length c1_0l), (.slice A1_0d (nmR a).dr.length c1_0d)] 27] [] hS3).lp.cells
  obtain ⟨A3_0d, c3_0d, rfl, -⟩ := id (Hs.rdM [mac_ ((.slice A1_0f (nmR a).fr.length c1_0f)) ((.slice A1_0b (nmR a).bk.length c1_0b)) ((.slice A1_0c (nmR a).cr.length c1_0c)) ((.slice A1_0l (nmR a).lp.length c1_0l)) ((.slice A1_0d (nmR a).dr.length c1_0d)) (nmR a), bx_ g1b1 #[.int .i64 ((nmR a).wd), .int .i64 ((nmR a).rk), (.slice A1_0f (nmR a).fr.length c1_0f), (.slice A1_0b (nmR a).bk.length c1_0b), (.slice A1_0c (nmR a).cr.length c1_0c), (.slice A1_0l (nmR a).lp.length c1_0l), (.slice A1_0d (nmR a).dr.length c1_0d)] 27] [] hS3).dr
  obtain ⟨kx1b1, -, lx1b1, -⟩ := Hs.bx [mac_ ((.slice A1_0f (nmR a).fr.length c1_0f)) ((.slice A1_0b (nmR a).bk.length c1_0b)) ((.slice A1_0c (nmR a).cr.length c1_0c)) ((.slice A1_0l (nmR a).lp.length c1_0l)) ((.slice A1_0d (nmR a).dr.length c1_0d)) (nmR a)] [mac_ ((.slice A3_0f (nmR a).fr.length c3_0f)) ((.slice A3_0b (nmR a).bk.length c3_0b)) ((.slice A3_0c (nmR a).cr.length c3_0c)) ((.slice A3_0l (nmR a).lp.length c3_0l)) ((.slice A3_0d (nmR a).dr.length c3_0d)) (nmR a)] hS3
  have kx1b1_0 : w3.cell? ⟨g1b1, 0, none⟩ = some (.int .i64 ((nmR a).wd)) := kx1b1 0
  have kx1b1_1 : w3.cell? ⟨g1b1, 1, none⟩ = some (.int .i64 ((nmR a).rk)) := kx1b1 1
  have kx1b1_2 : w3.cell? ⟨g1b1, 2, none⟩ = some ((.slice A1_0f (nmR a).fr.length c1_0f)) := kx1b1 2
  have kx1b1_3 : w3.cell? ⟨g1b1, 3, none⟩ = some ((.slice A1_0b (nmR a).bk.length c1_0b)) := kx1b1 3
  have kx1b1_4 : w3.cell? ⟨g1b1, 4, none⟩ = some ((.slice A1_0c (nmR a).cr.length c1_0c)) := kx1b1 4
  have kx1b1_5 : w3.cell? ⟨g1b1, 5, none⟩ = some ((.slice A1_0l (nmR a).lp.length c1_0l)) := kx1b1 5
  have kx1b1_6 : w3.cell? ⟨g1b1, 6, none⟩ = some ((.slice A1_0d (nmR a).dr.length c1_0d)) := kx1b1 6
  clear kx1b1
  go_wp2_with fail
  clear kx1b1_0 kx1b1_1 kx1b1_2 kx1b1_3 kx1b1_4 kx1b1_5 kx1b1_6 lx1b1
  have hS3b2 := hS3.join (al1 _ _) (hs_bx w3 #[.int .i64 ((nmR a).wd), .int .i64 ((nmR a).rk), (.slice A3_0f (nmR a).fr.length c3_0f), (.slice A3_0b (nmR a).bk.length c3_0b), (.slice A3_0c (nmR a).cr.length c3_0c), (.slice A3_0l (nmR a).lp.length c3_0l), (.slice A3_0d (nmR a).dr.length c3_0d)] 27)
  have hb3b2 := hb3.trans ((al1 w3 (.cells #[.int .i64 ((nmR a).wd), .int .i64 ((nmR a).rk), (.slice A3_0f (nmR a).fr.length c3_0f), (.slice A3_0b (nmR a).bk.length c3_0b), (.slice A3_0c (nmR a).cr.length c3_0c), (.slice A3_0l (nmR a).lp.length c3_0l), (.slice A3_0d (nmR a).dr.length c3_0d)] 27)).mono hb3.size)
  clear hb3 hS3
  generalize hg3b2 : w3.heap.size = g3b2 at *
  generalize hw3b2 : w3.alloc (.cells #[.int .i64 ((nmR a).wd), .int .i64 ((nmR a).rk), (.slice A3_0f (nmR a).fr.length c3_0f), (.slice A3_0b (nmR a).bk.length c3_0b), (.slice A3_0c (nmR a).cr.length c3_0c), (.slice A3_0l (nmR a).lp.length c3_0l), (.slice A3_0d (nmR a).dr.length c3_0d)] 27) = w4 at *
  clear hg3b2 hw3b2
  have hS4 := hS3b2
  have hb4 := hb3b2
  clear hS3b2 hb3b2
  refine (eqMac_yes (Hs.rdM [mac_ ((.slice A1_0f (nmR a).fr.length c1_0f)) ((.slice A1_0b (nmR a).bk.length c1_0b)) ((.slice A1_0c (nmR a).cr.length c1_0c)) ((.slice A1_0l (nmR a).lp.length c1_0l)) ((.slice A1_0d (nmR a).dr.length c1_0d)) (nmR a), bx_ g1b1 #[.int .i64 ((nmR a).wd), .int .i64 ((nmR a).rk), (.slice A1_0f (nmR a).fr.length c1_0f), (.slice A1_0b (nmR a).bk.length c1_0b), (.slice A1_0c (nmR a).cr.length c1_0c), (.slice A1_0l (nmR a).lp.length c1_0l), (.slice A1_0d (nmR a).dr.length c1_0d)] 27] [bx_ g3b2 #[.int .i64 ((nmR a).wd), .int .i64 ((nmR a).rk), (.slice A3_0f (nmR a).fr.length c3_0f), (.slice A3_0b (nmR a).bk.length c3_0b), (.slice A3_0c (nmR a).cr.length c3_0c), (.slice A3_0l (nmR a).lp.length c3_0l), (.slice A3_0d (nmR a).dr.length c3_0d)] 27] hS4) (Hs.rdM [] [bx_ g1b1 #[.int .i64 ((nmR a).wd), .int .i64 ((nmR a).rk), (.slice A1_0f (nmR a).fr.length c1_0f), (.slice A1_0b (nmR a).bk.length c1_0b), (.slice A1_0c (nmR a).cr.length c1_0c), (.slice A1_0l (nmR a).lp.length c1_0l), (.slice A1_0d (nmR a).dr.length c1_0d)] 27, mac_ ((.slice A3_0f (nmR a).fr.length c3_0f)) ((.slice A3_0b (nmR a).bk.length c3_0b)) ((.slice A3_0c (nmR a).cr.length c3_0c)) ((.slice A3_0l (nmR a).lp.length c3_0l)) ((.slice A3_0d (nmR a).dr.length c3_0d)) (nmR a), bx_ g3b2 #[.int .i64 ((nmR a).wd), .int .i64 ((nmR a).rk), (.slice A3_0f (nmR a).fr.length c3_0f), (.slice A3_0b (nmR a).bk.length c3_0b), (.slice A3_0c (nmR a).cr.length c3_0c), (.slice A3_0l (nmR a).lp.length c3_0l), (.slice A3_0d (nmR a).dr.length c3_0d)] 27] hS4) (Nat.le_refl _) (Nat.le_refl _)).mono ?_
  rintro e w5 ⟨rfl, hq⟩
  have hb5 := hb4.trans (hq.mono hb4.size)
  have hS5 := hS4.below hq
  clear hb4 hS4 hq
  obtain ⟨kx1b1, -, lx1b1, -⟩ := Hs.bx [mac_ ((.slice A1_0f (nmR a).fr.length c1_0f)) ((.slice A1_0b (nmR a).bk.length c1_0b)) ((.slice A1_0c (nmR a).cr.length c1_0c)) ((.slice A1_0l (nmR a).lp.length c1_0l)) ((.slice A1_0d (nmR a).dr.length c1_0d)) (nmR a)] [mac_ ((.slice A3_0f (nmR a).fr.length c3_0f)) ((.slice A3_0b (nmR a).bk.length c3_0b)) ((.slice A3_0c (nmR a).cr.length c3_0c)) ((.slice A3_0l (nmR a).lp.length c3_0l)) ((.slice A3_0d (nmR a).dr.length c3_0d)) (nmR a), bx_ g3b2 #[.int .i64 ((nmR a).wd), .int .i64 ((nmR a).rk), (.slice A3_0f (nmR a).fr.length c3_0f), (.slice A3_0b (nmR a).bk.length c3_0b), (.slice A3_0c (nmR a).cr.length c3_0c), (.slice A3_0l (nmR a).lp.length c3_0l), (.slice A3_0d (nmR a).dr.length c3_0d)] 27] hS5
  have kx1b1_0 : w5.cell? ⟨g1b1, 0, none⟩ = some (.int .i64 ((nmR a).wd)) := kx1b1 0
  have kx1b1_1 : w5.cell? ⟨g1b1, 1, none⟩ = some (.int .i64 ((nmR a).rk)) := kx1b1 1
  have kx1b1_2 : w5.cell? ⟨g1b1, 2, none⟩ = some ((.slice A1_0f (nmR a).fr.length c1_0f)) := kx1b1 2
  have kx1b1_3 : w5.cell? ⟨g1b1, 3, none⟩ = some ((.slice A1_0b (nmR a).bk.length c1_0b)) := kx1b1 3
  have kx1b1_4 : w5.cell? ⟨g1b1, 4, none⟩ = some ((.slice A1_0c (nmR a).cr.length c1_0c)) := kx1b1 4
  have kx1b1_5 : w5.cell? ⟨g1b1, 5, none⟩ = some ((.slice A1_0l (nmR a).lp.length c1_0l)) := kx1b1 5
  have kx1b1_6 : w5.cell? ⟨g1b1, 6, none⟩ = some ((.slice A1_0d (nmR a).dr.length c1_0d)) := kx1b1 6
  clear kx1b1
  obtain ⟨kx3b2, -, lx3b2, -⟩ := Hs.bx [mac_ ((.slice A1_0f (nmR a).fr.length c1_0f)) ((.slice A1_0b (nmR a).bk.length c1_0b)) ((.slice A1_0c (nmR a).cr.length c1_0c)) ((.slice A1_0l (nmR a).lp.length c1_0l)) ((.slice A1_0d (nmR a).dr.length c1_0d)) (nmR a), bx_ g1b1 #[.int .i64 ((nmR a).wd), .int .i64 ((nmR a).rk), (.slice A1_0f (nmR a).fr.length c1_0f), (.slice A1_0b (nmR a).bk.length c1_0b), (.slice A1_0c (nmR a).cr.length c1_0c), (.slice A1_0l (nmR a).lp.length c1_0l), (.slice A1_0d (nmR a).dr.length c1_0d)] 27, mac_ ((.slice A3_0f (nmR a).fr.length c3_0f)) ((.slice A3_0b (nmR a).bk.length c3_0b)) ((.slice A3_0c (nmR a).cr.length c3_0c)) ((.slice A3_0l (nmR a).lp.length c3_0l)) ((.slice A3_0d (nmR a).dr.length c3_0d)) (nmR a)] [] hS5
  have kx3b2_0 : w5.cell? ⟨g3b2, 0, none⟩ = some (.int .i64 ((nmR a).wd)) := kx3b2 0
  have kx3b2_1 : w5.cell? ⟨g3b2, 1, none⟩ = some (.int .i64 ((nmR a).rk)) := kx3b2 1
  have kx3b2_2 : w5.cell? ⟨g3b2, 2, none⟩ = some ((.slice A3_0f (nmR a).fr.length c3_0f)) := kx3b2 2
  have kx3b2_3 : w5.cell? ⟨g3b2, 3, none⟩ = some ((.slice A3_0b (nmR a).bk.length c3_0b)) := kx3b2 3
  have kx3b2_4 : w5.cell? ⟨g3b2, 4, none⟩ = some ((.slice A3_0c (nmR a).cr.length c3_0c)) := kx3b2 4
  have kx3b2_5 : w5.cell? ⟨g3b2, 5, none⟩ = some ((.slice A3_0l (nmR a).lp.length c3_0l)) := kx3b2 5
  have kx3b2_6 : w5.cell? ⟨g3b2, 6, none⟩ = some ((.slice A3_0d (nmR a).dr.length c3_0d)) := kx3b2 6
  clear kx3b2
  go_wp2_with fail
  clear kx1b1_0 kx1b1_1 kx1b1_2 kx1b1_3 kx1b1_4 kx1b1_5 kx1b1_6 lx1b1 kx3b2_0 kx3b2_1 kx3b2_2 kx3b2_3 kx3b2_4 kx3b2_5 kx3b2_6 lx3b2
  obtain ⟨SS, hit, hsb, hput⟩ := Hs.at_ [mac_ ((.slice A1_0f (nmR a).fr.length c1_0f)) ((.slice A1_0b (nmR a).bk.length c1_0b)) ((.slice A1_0c (nmR a).cr.length c1_0c)) ((.slice A1_0l (nmR a).lp.length c1_0l)) ((.slice A1_0d (nmR a).dr.length c1_0d)) (nmR a), bx_ g1b1 #[.int .i64 ((nmR a).wd), .int .i64 ((nmR a).rk), (.slice A1_0f (nmR a).fr.length c1_0f), (.slice A1_0b (nmR a).bk.length c1_0b), (.slice A1_0c (nmR a).cr.length c1_0c), (.slice A1_0l (nmR a).lp.length c1_0l), (.slice A1_0d (nmR a).dr.length c1_0d)] 27] (mac_ ((.slice A3_0f (nmR a).fr.length c3_0f)) ((.slice A3_0b (nmR a).bk.length c3_0b)) ((.slice A3_0c (nmR a).cr.length c3_0c)) ((.slice A3_0l (nmR a).lp.length c3_0l)) ((.slice A3_0d (nmR a).dr.length c3_0d)) (nmR a)) [bx_ g3b2 #[.int .i64 ((nmR a).wd), .int .i64 ((nmR a).rk), (.slice A3_0f (nmR a).fr.length c3_0f), (.slice A3_0b (nmR a).bk.length c3_0b), (.slice A3_0c (nmR a).cr.length c3_0c), (.slice A3_0l (nmR a).lp.length c3_0l), (.slice A3_0d (nmR a).dr.length c3_0d)] 27] hS5
  have HPUT := Lib.hid hput
  clear hput
  refine (markMac_any (k := 1) hit (fun j hj => (hsb j hj).2) (nm_five a) (by have := (nm_marks a); omega) (by have := (nm_marks a); omega) (by omega) (by omega)).mono ?_
  rintro e w6 ⟨rfl, hit2, hch⟩
  have hS6 := HPUT.out (mac_ ((.slice A3_0f (nmR a).fr.length c3_0f)) ((.slice A3_0b (nmR a).bk.length c3_0b)) ((.slice A3_0c (nmR a).cr.length c3_0c)) ((.slice A3_0l (nmR a).lp.length c3_0l)) ((.slice A3_0d (nmR a).dr.length c3_0d)) (Mac.mark (1) (nmR a))) w6 hit2 hch
  have hb6 := hb5.trans (hch.below (fun k hk => (hsb k hk).1) hb5.size)
  clear hb5 hS5 HPUT hit hit2 hch hsb
  obtain ⟨kx1b1, -, lx1b1, -⟩ := Hs.bx [mac_ ((.slice A1_0f (nmR a).fr.length c1_0f)) ((.slice A1_0b (nmR a).bk.length c1_0b)) ((.slice A1_0c (nmR a).cr.length c1_0c)) ((.slice A1_0l (nmR a).lp.length c1_0l)) ((.slice A1_0d (nmR a).dr.length c1_0d)) (nmR a)] [mac_ ((.slice A3_0f (nmR a).fr.length c3_0f)) ((.slice A3_0b (nmR a).bk.length c3_0b)) ((.slice A3_0c (nmR a).cr.length c3_0c)) ((.slice A3_0l (nmR a).lp.length c3_0l)) ((.slice A3_0d (nmR a).dr.length c3_0d)) (Mac.mark (1) (nmR a)), bx_ g3b2 #[.int .i64 ((nmR a).wd), .int .i64 ((nmR a).rk), (.slice A3_0f (nmR a).fr.length c3_0f), (.slice A3_0b (nmR a).bk.length c3_0b), (.slice A3_0c (nmR a).cr.length c3_0c), (.slice A3_0l (nmR a).lp.length c3_0l), (.slice A3_0d (nmR a).dr.length c3_0d)] 27] hS6
  have kx1b1_0 : w6.cell? ⟨g1b1, 0, none⟩ = some (.int .i64 ((nmR a).wd)) := kx1b1 0
  have kx1b1_1 : w6.cell? ⟨g1b1, 1, none⟩ = some (.int .i64 ((nmR a).rk)) := kx1b1 1
  have kx1b1_2 : w6.cell? ⟨g1b1, 2, none⟩ = some ((.slice A1_0f (nmR a).fr.length c1_0f)) := kx1b1 2
  have kx1b1_3 : w6.cell? ⟨g1b1, 3, none⟩ = some ((.slice A1_0b (nmR a).bk.length c1_0b)) := kx1b1 3
  have kx1b1_4 : w6.cell? ⟨g1b1, 4, none⟩ = some ((.slice A1_0c (nmR a).cr.length c1_0c)) := kx1b1 4
  have kx1b1_5 : w6.cell? ⟨g1b1, 5, none⟩ = some ((.slice A1_0l (nmR a).lp.length c1_0l)) := kx1b1 5
  have kx1b1_6 : w6.cell? ⟨g1b1, 6, none⟩ = some ((.slice A1_0d (nmR a).dr.length c1_0d)) := kx1b1 6
  clear kx1b1
  obtain ⟨kx3b2, -, lx3b2, -⟩ := Hs.bx [mac_ ((.slice A1_0f (nmR a).fr.length c1_0f)) ((.slice A1_0b (nmR a).bk.length c1_0b)) ((.slice A1_0c (nmR a).cr.length c1_0c)) ((.slice A1_0l (nmR a).lp.length c1_0l)) ((.slice A1_0d (nmR a).dr.length c1_0d)) (nmR a), bx_ g1b1 #[.int .i64 ((nmR a).wd), .int .i64 ((nmR a).rk), (.slice A1_0f (nmR a).fr.length c1_0f), (.slice A1_0b (nmR a).bk.length c1_0b), (.slice A1_0c (nmR a).cr.length c1_0c), (.slice A1_0l (nmR a).lp.length c1_0l), (.slice A1_0d (nmR a).dr.length c1_0d)] 27, mac_ ((.slice A3_0f (nmR a).fr.length c3_0f)) ((.slice A3_0b (nmR a).bk.length c3_0b)) ((.slice A3_0c (nmR a).cr.length c3_0c)) ((.slice A3_0l (nmR a).lp.length c3_0l)) ((.slice A3_0d (nmR a).dr.length c3_0d)) (Mac.mark (1) (nmR a))] [] hS6
  have kx3b2_0 : w6.cell? ⟨g3b2, 0, none⟩ = some (.int .i64 ((nmR a).wd)) := kx3b2 0
  have kx3b2_1 : w6.cell? ⟨g3b2, 1, none⟩ = some (.int .i64 ((nmR a).rk)) := kx3b2 1
  have kx3b2_2 : w6.cell? ⟨g3b2, 2, none⟩ = some ((.slice A3_0f (nmR a).fr.length c3_0f)) := kx3b2 2
  have kx3b2_3 : w6.cell? ⟨g3b2, 3, none⟩ = some ((.slice A3_0b (nmR a).bk.length c3_0b)) := kx3b2 3
  have kx3b2_4 : w6.cell? ⟨g3b2, 4, none⟩ = some ((.slice A3_0c (nmR a).cr.length c3_0c)) := kx3b2 4
  have kx3b2_5 : w6.cell? ⟨g3b2, 5, none⟩ = some ((.slice A3_0l (nmR a).lp.length c3_0l)) := kx3b2 5
  have kx3b2_6 : w6.cell? ⟨g3b2, 6, none⟩ = some ((.slice A3_0d (nmR a).dr.length c3_0d)) := kx3b2 6
  clear kx3b2
  go_wp2_with fail
  clear kx1b1_0 kx1b1_1 kx1b1_2 kx1b1_3 kx1b1_4 kx1b1_5 kx1b1_6 lx1b1 kx3b2_0 kx3b2_1 kx3b2_2 kx3b2_3 kx3b2_4 kx3b2_5 kx3b2_6 lx3b2
  refine (heldMac_any (k := 1) (m := nmR a) (Hs.rdM [mac_ ((.slice A1_0f (nmR a).fr.length c1_0f)) ((.slice A1_0b (nmR a).bk.length c1_0b)) ((.slice A1_0c (nmR a).cr.length c1_0c)) ((.slice A1_0l (nmR a).lp.length c1_0l)) ((.slice A1_0d (nmR a).dr.length c1_0d)) (nmR a), bx_ g1b1 #[.int .i64 ((nmR a).wd), .int .i64 ((nmR a).rk), (.slice A1_0f (nmR a).fr.length c1_0f), (.slice A1_0b (nmR a).bk.length c1_0b), (.slice A1_0c (nmR a).cr.length c1_0c), (.slice A1_0l (nmR a).lp.length c1_0l), (.slice A1_0d (nmR a).dr.length c1_0d)] 27] [bx_ g3b2 #[.int .i64 ((nmR a).wd), .int .i64 ((nmR a).rk), (.slice A3_0f (nmR a).fr.length c3_0f), (.slice A3_0b (nmR a).bk.length c3_0b), (.slice A3_0c (nmR a).cr.length c3_0c), (.slice A3_0l (nmR a).lp.length c3_0l), (.slice A3_0d (nmR a).dr.length c3_0d)] 27] hS6) (Nat.le_refl _) (nm_five a) (by have := (nm_marks a); omega) (by have := (nm_marks a); omega) (by omega) (by omega)).mono ?_
  rintro e w7 ⟨rfl, hq⟩
  have hb7 := hb6.trans (hq.mono hb6.size)
  have hS7 := hS6.below hq
  clear hb6 hS6 hq
  obtain ⟨kx1b1, -, lx1b1, -⟩ := Hs.bx [mac_ ((.slice A1_0f (nmR a).fr.length c1_0f)) ((.slice A1_0b (nmR a).bk.length c1_0b)) ((.slice A1_0c (nmR a).cr.length c1_0c)) ((.slice A1_0l (nmR a).lp.length c1_0l)) ((.slice A1_0d (nmR a).dr.length c1_0d)) (nmR a)] [mac_ ((.slice A3_0f (nmR a).fr.length c3_0f)) ((.slice A3_0b (nmR a).bk.length c3_0b)) ((.slice A3_0c (nmR a).cr.length c3_0c)) ((.slice A3_0l (nmR a).lp.length c3_0l)) ((.slice A3_0d (nmR a).dr.length c3_0d)) (Mac.mark (1) (nmR a)), bx_ g3b2 #[.int .i64 ((nmR a).wd), .int .i64 ((nmR a).rk), (.slice A3_0f (nmR a).fr.length c3_0f), (.slice A3_0b (nmR a).bk.length c3_0b), (.slice A3_0c (nmR a).cr.length c3_0c), (.slice A3_0l (nmR a).lp.length c3_0l), (.slice A3_0d (nmR a).dr.length c3_0d)] 27] hS7
  have kx1b1_0 : w7.cell? ⟨g1b1, 0, none⟩ = some (.int .i64 ((nmR a).wd)) := kx1b1 0
  have kx1b1_1 : w7.cell? ⟨g1b1, 1, none⟩ = some (.int .i64 ((nmR a).rk)) := kx1b1 1
  have kx1b1_2 : w7.cell? ⟨g1b1, 2, none⟩ = some ((.slice A1_0f (nmR a).fr.length c1_0f)) := kx1b1 2
  have kx1b1_3 : w7.cell? ⟨g1b1, 3, none⟩ = some ((.slice A1_0b (nmR a).bk.length c1_0b)) := kx1b1 3
  have kx1b1_4 : w7.cell? ⟨g1b1, 4, none⟩ = some ((.slice A1_0c (nmR a).cr.length c1_0c)) := kx1b1 4
  have kx1b1_5 : w7.cell? ⟨g1b1, 5, none⟩ = some ((.slice A1_0l (nmR a).lp.length c1_0l)) := kx1b1 5
  have kx1b1_6 : w7.cell? ⟨g1b1, 6, none⟩ = some ((.slice A1_0d (nmR a).dr.length c1_0d)) := kx1b1 6
  clear kx1b1
  obtain ⟨kx3b2, -, lx3b2, -⟩ := Hs.bx [mac_ ((.slice A1_0f (nmR a).fr.length c1_0f)) ((.slice A1_0b (nmR a).bk.length c1_0b)) ((.slice A1_0c (nmR a).cr.length c1_0c)) ((.slice A1_0l (nmR a).lp.length c1_0l)) ((.slice A1_0d (nmR a).dr.length c1_0d)) (nmR a), bx_ g1b1 #[.int .i64 ((nmR a).wd), .int .i64 ((nmR a).rk), (.slice A1_0f (nmR a).fr.length c1_0f), (.slice A1_0b (nmR a).bk.length c1_0b), (.slice A1_0c (nmR a).cr.length c1_0c), (.slice A1_0l (nmR a).lp.length c1_0l), (.slice A1_0d (nmR a).dr.length c1_0d)] 27, mac_ ((.slice A3_0f (nmR a).fr.length c3_0f)) ((.slice A3_0b (nmR a).bk.length c3_0b)) ((.slice A3_0c (nmR a).cr.length c3_0c)) ((.slice A3_0l (nmR a).lp.length c3_0l)) ((.slice A3_0d (nmR a).dr.length c3_0d)) (Mac.mark (1) (nmR a))] [] hS7
  have kx3b2_0 : w7.cell? ⟨g3b2, 0, none⟩ = some (.int .i64 ((nmR a).wd)) := kx3b2 0
  have kx3b2_1 : w7.cell? ⟨g3b2, 1, none⟩ = some (.int .i64 ((nmR a).rk)) := kx3b2 1
  have kx3b2_2 : w7.cell? ⟨g3b2, 2, none⟩ = some ((.slice A3_0f (nmR a).fr.length c3_0f)) := kx3b2 2
  have kx3b2_3 : w7.cell? ⟨g3b2, 3, none⟩ = some ((.slice A3_0b (nmR a).bk.length c3_0b)) := kx3b2 3
  have kx3b2_4 : w7.cell? ⟨g3b2, 4, none⟩ = some ((.slice A3_0c (nmR a).cr.length c3_0c)) := kx3b2 4
  have kx3b2_5 : w7.cell? ⟨g3b2, 5, none⟩ = some ((.slice A3_0l (nmR a).lp.length c3_0l)) := kx3b2 5
  have kx3b2_6 : w7.cell? ⟨g3b2, 6, none⟩ = some ((.slice A3_0d (nmR a).dr.length c3_0d)) := kx3b2 6
  clear kx3b2
  go_wp2_with fail
  clear kx1b1_0 kx1b1_1 kx1b1_2 kx1b1_3 kx1b1_4 kx1b1_5 kx1b1_6 lx1b1 kx3b2_0 kx3b2_1 kx3b2_2 kx3b2_3 kx3b2_4 kx3b2_5 kx3b2_6 lx3b2
  refine (impl_NewMachine_any a _).mono ?_
  rintro e w8 ⟨q8_0f, q8_0b, q8_0c, q8_0l, q8_0d, rfl, ho8, hq⟩
  have hb8 := hb7.trans (hq.mono hb7.size)
  have hS8 := hS7.join hq ho8
  clear hb7 hS7 hq ho8
  obtain ⟨A8_0f, c8_0f, rfl, -⟩ := id (Hs.rdM [mac_ ((.slice A1_0f (nmR a).fr.length c1_0f)) ((.slice A1_0b (nmR a).bk.length c1_0b)) ((.slice A1_0c (nmR a).cr.length c1_0c)) ((.slice A1_0l (nmR a).lp.length c1_0l)) ((.slice A1_0d (nmR a).dr.length c1_0d)) (nmR a), bx_ g1b1 #[.int .i64 ((nmR a).wd), .int .i64 ((nmR a).rk), (.slice A1_0f (nmR a).fr.length c1_0f), (.slice A1_0b (nmR a).bk.length c1_0b), (.slice A1_0c (nmR a).cr.length c1_0c), (.slice A1_0l (nmR a).lp.length c1_0l), (.slice A1_0d (nmR a).dr.length c1_0d)] 27, mac_ ((.slice A3_0f (nmR a).fr.length c3_0f)) ((.slice A3_0b (nmR a).bk.length c3_0b)) ((.slice A3_0c (nmR a).cr.length c3_0c)) ((.slice A3_0l (nmR a).lp.length c3_0l)) ((.slice A3_0d (nmR a).dr.length c3_0d)) (Mac.mark (1) (nmR a)), bx_ g3b2 #[.int .i64 ((nmR a).wd), .int .i64 ((nmR a).rk), (.slice A3_0f (nmR a).fr.length c3_0f), (.slice A3_0b (nmR a).bk.length c3_0b), (.slice A3_0c (nmR a).cr.length c3_0c), (.slice A3_0l (nmR a).lp.length c3_0l), (.slice A3_0d (nmR a).dr.length c3_0d)] 27] [] hS8).fr
  obtain ⟨A8_0b, c8_0b, rfl, -⟩ := id (Hs.rdM [mac_ ((.slice A1_0f (nmR a).fr.length c1_0f)) ((.slice A1_0b (nmR a).bk.length c1_0b)) ((.slice A1_0c (nmR a).cr.length c1_0c)) ((.slice A1_0l (nmR a).lp.length c1_0l)) ((.slice A1_0d (nmR a).dr.length c1_0d)) (nmR a), bx_ g1b1 #[.int .i64 ((nmR a).wd), .int .i64 ((nmR a).rk), (.slice A1_0f (nmR a).fr.length c1_0f), (.slice A1_0b (nmR a).bk.length c1_0b), (.slice A1_0c (nmR a).cr.length c1_0c), (.slice A1_0l (nmR a).lp.length c1_0l), (.slice A1_0d (nmR a).dr.length c1_0d)] 27, mac_ ((.slice A3_0f (nmR a).fr.length c3_0f)) ((.slice A3_0b (nmR a).bk.length c3_0b)) ((.slice A3_0c (nmR a).cr.length c3_0c)) ((.slice A3_0l (nmR a).lp.length c3_0l)) ((.slice A3_0d (nmR a).dr.length c3_0d)) (Mac.mark (1) (nmR a)), bx_ g3b2 #[.int .i64 ((nmR a).wd), .int .i64 ((nmR a).rk), (.slice A3_0f (nmR a).fr.length c3_0f), (.slice A3_0b (nmR a).bk.length c3_0b), (.slice A3_0c (nmR a).cr.length c3_0c), (.slice A3_0l (nmR a).lp.length c3_0l), (.slice A3_0d (nmR a).dr.length c3_0d)] 27] [] hS8).bk
  obtain ⟨A8_0c, c8_0c, rfl, -⟩ := id (Hs.rdM [mac_ ((.slice A1_0f (nmR a).fr.length c1_0f)) ((.slice A1_0b (nmR a).bk.length c1_0b)) ((.slice A1_0c (nmR a).cr.length c1_0c)) ((.slice A1_0l (nmR a).lp.length c1_0l)) ((.slice A1_0d (nmR a).dr.length c1_0d)) (nmR a), bx_ g1b1 #[.int .i64 ((nmR a).wd), .int .i64 ((nmR a).rk), (.slice A1_0f (nmR a).fr.length c1_0f), (.slice A1_0b (nmR a).bk.length c1_0b), (.slice A1_0c (nmR a).cr.length c1_0c), (.slice A1_0l (nmR a).lp.length c1_0l), (.slice A1_0d (nmR a).dr.length c1_0d)] 27, mac_ ((.slice A3_0f (nmR a).fr.length c3_0f)) ((.slice A3_0b (nmR a).bk.length c3_0b)) ((.slice A3_0c (nmR a).cr.length c3_0c)) ((.slice A3_0l (nmR a).lp.length c3_0l)) ((.slice A3_0d (nmR a).dr.length c3_0d)) (Mac.mark (1) (nmR a)), bx_ g3b2 #[.int .i64 ((nmR a).wd), .int .i64 ((nmR a).rk), (.slice A3_0f (nmR a).fr.length c3_0f), (.slice A3_0b (nmR a).bk.length c3_0b), (.slice A3_0c (nmR a).cr.length c3_0c), (.slice A3_0l (nmR a).lp.length c3_0l), (.slice A3_0d (nmR a).dr.length c3_0d)] 27] [] hS8).cr.cells
  obtain ⟨A8_0l, c8_0l, rfl, -⟩ := id (Hs.rdM [mac_ ((.slice A1_0f (nmR a).fr.length c1_0f)) ((.slice A1_0b (nmR a).bk.length c1_0b)) ((.slice A1_0c (nmR a).cr.length c1_0c)) ((.slice A1_0l (nmR a).lp.length c1_0l)) ((.slice A1_0d (nmR a).dr.length c1_0d)) (nmR a), bx_ g1b1 #[.int .i64 ((nmR a).wd), .int .i64 ((nmR a).rk), (.slice A1_0f (nmR a).fr.length c1_0f), (.slice A1_0b (nmR a).bk.length c1_0b), (.slice A1_0c (nmR a).cr.length c1_0c), (.slice A1_0l (nmR a).lp.length c1_0l), (.slice A1_0d (nmR a).dr.length c1_0d)] 27, mac_ ((.slice A3_0f (nmR a).fr.length c3_0f)) ((.slice A3_0b (nmR a).bk.length c3_0b)) ((.slice A3_0c (nmR a).cr.length c3_0c)) ((.slice A3_0l (nmR a).lp.length c3_0l)) ((.slice A3_0d (nmR a).dr.length c3_0d)) (Mac.mark (1) (nmR a)), bx_ g3b2 #[.int .i64 ((nmR a).wd), .int .i64 ((nmR a).rk), (.slice A3_0f (nmR a).fr.length c3_0f), (.slice A3_0b (nmR a).bk.length c3_0b), (.slice A3_0c (nmR a).cr.length c3_0c), (.slice A3_0l (nmR a).lp.length c3_0l), (.slice A3_0d (nmR a).dr.length c3_0d)] 27] [] hS8).lp.cells
  obtain ⟨A8_0d, c8_0d, rfl, -⟩ := id (Hs.rdM [mac_ ((.slice A1_0f (nmR a).fr.length c1_0f)) ((.slice A1_0b (nmR a).bk.length c1_0b)) ((.slice A1_0c (nmR a).cr.length c1_0c)) ((.slice A1_0l (nmR a).lp.length c1_0l)) ((.slice A1_0d (nmR a).dr.length c1_0d)) (nmR a), bx_ g1b1 #[.int .i64 ((nmR a).wd), .int .i64 ((nmR a).rk), (.slice A1_0f (nmR a).fr.length c1_0f), (.slice A1_0b (nmR a).bk.length c1_0b), (.slice A1_0c (nmR a).cr.length c1_0c), (.slice A1_0l (nmR a).lp.length c1_0l), (.slice A1_0d (nmR a).dr.length c1_0d)] 27, mac_ ((.slice A3_0f (nmR a).fr.length c3_0f)) ((.slice A3_0b (nmR a).bk.length c3_0b)) ((.slice A3_0c (nmR a).cr.length c3_0c)) ((.slice A3_0l (nmR a).lp.length c3_0l)) ((.slice A3_0d (nmR a).dr.length c3_0d)) (Mac.mark (1) (nmR a)), bx_ g3b2 #[.int .i64 ((nmR a).wd), .int .i64 ((nmR a).rk), (.slice A3_0f (nmR a).fr.length c3_0f), (.slice A3_0b (nmR a).bk.length c3_0b), (.slice A3_0c (nmR a).cr.length c3_0c), (.slice A3_0l (nmR a).lp.length c3_0l), (.slice A3_0d (nmR a).dr.length c3_0d)] 27] [] hS8).dr
  obtain ⟨kx1b1, -, lx1b1, -⟩ := Hs.bx [mac_ ((.slice A1_0f (nmR a).fr.length c1_0f)) ((.slice A1_0b (nmR a).bk.length c1_0b)) ((.slice A1_0c (nmR a).cr.length c1_0c)) ((.slice A1_0l (nmR a).lp.length c1_0l)) ((.slice A1_0d (nmR a).dr.length c1_0d)) (nmR a)] [mac_ ((.slice A3_0f (nmR a).fr.length c3_0f)) ((.slice A3_0b (nmR a).bk.length c3_0b)) ((.slice A3_0c (nmR a).cr.length c3_0c)) ((.slice A3_0l (nmR a).lp.length c3_0l)) ((.slice A3_0d (nmR a).dr.length c3_0d)) (Mac.mark (1) (nmR a)), bx_ g3b2 #[.int .i64 ((nmR a).wd), .int .i64 ((nmR a).rk), (.slice A3_0f (nmR a).fr.length c3_0f), (.slice A3_0b (nmR a).bk.length c3_0b), (.slice A3_0c (nmR a).cr.length c3_0c), (.slice A3_0l (nmR a).lp.length c3_0l), (.slice A3_0d (nmR a).dr.length c3_0d)] 27, mac_ ((.slice A8_0f (nmR a).fr.length c8_0f)) ((.slice A8_0b (nmR a).bk.length c8_0b)) ((.slice A8_0c (nmR a).cr.length c8_0c)) ((.slice A8_0l (nmR a).lp.length c8_0l)) ((.slice A8_0d (nmR a).dr.length c8_0d)) (nmR a)] hS8
  have kx1b1_0 : w8.cell? ⟨g1b1, 0, none⟩ = some (.int .i64 ((nmR a).wd)) := kx1b1 0
  have kx1b1_1 : w8.cell? ⟨g1b1, 1, none⟩ = some (.int .i64 ((nmR a).rk)) := kx1b1 1
  have kx1b1_2 : w8.cell? ⟨g1b1, 2, none⟩ = some ((.slice A1_0f (nmR a).fr.length c1_0f)) := kx1b1 2
  have kx1b1_3 : w8.cell? ⟨g1b1, 3, none⟩ = some ((.slice A1_0b (nmR a).bk.length c1_0b)) := kx1b1 3
  have kx1b1_4 : w8.cell? ⟨g1b1, 4, none⟩ = some ((.slice A1_0c (nmR a).cr.length c1_0c)) := kx1b1 4
  have kx1b1_5 : w8.cell? ⟨g1b1, 5, none⟩ = some ((.slice A1_0l (nmR a).lp.length c1_0l)) := kx1b1 5
  have kx1b1_6 : w8.cell? ⟨g1b1, 6, none⟩ = some ((.slice A1_0d (nmR a).dr.length c1_0d)) := kx1b1 6
  clear kx1b1
  obtain ⟨kx3b2, -, lx3b2, -⟩ := Hs.bx [mac_ ((.slice A1_0f (nmR a).fr.length c1_0f)) ((.slice A1_0b (nmR a).bk.length c1_0b)) ((.slice A1_0c (nmR a).cr.length c1_0c)) ((.slice A1_0l (nmR a).lp.length c1_0l)) ((.slice A1_0d (nmR a).dr.length c1_0d)) (nmR a), bx_ g1b1 #[.int .i64 ((nmR a).wd), .int .i64 ((nmR a).rk), (.slice A1_0f (nmR a).fr.length c1_0f), (.slice A1_0b (nmR a).bk.length c1_0b), (.slice A1_0c (nmR a).cr.length c1_0c), (.slice A1_0l (nmR a).lp.length c1_0l), (.slice A1_0d (nmR a).dr.length c1_0d)] 27, mac_ ((.slice A3_0f (nmR a).fr.length c3_0f)) ((.slice A3_0b (nmR a).bk.length c3_0b)) ((.slice A3_0c (nmR a).cr.length c3_0c)) ((.slice A3_0l (nmR a).lp.length c3_0l)) ((.slice A3_0d (nmR a).dr.length c3_0d)) (Mac.mark (1) (nmR a))] [mac_ ((.slice A8_0f (nmR a).fr.length c8_0f)) ((.slice A8_0b (nmR a).bk.length c8_0b)) ((.slice A8_0c (nmR a).cr.length c8_0c)) ((.slice A8_0l (nmR a).lp.length c8_0l)) ((.slice A8_0d (nmR a).dr.length c8_0d)) (nmR a)] hS8
  have kx3b2_0 : w8.cell? ⟨g3b2, 0, none⟩ = some (.int .i64 ((nmR a).wd)) := kx3b2 0
  have kx3b2_1 : w8.cell? ⟨g3b2, 1, none⟩ = some (.int .i64 ((nmR a).rk)) := kx3b2 1
  have kx3b2_2 : w8.cell? ⟨g3b2, 2, none⟩ = some ((.slice A3_0f (nmR a).fr.length c3_0f)) := kx3b2 2
  have kx3b2_3 : w8.cell? ⟨g3b2, 3, none⟩ = some ((.slice A3_0b (nmR a).bk.length c3_0b)) := kx3b2 3
  have kx3b2_4 : w8.cell? ⟨g3b2, 4, none⟩ = some ((.slice A3_0c (nmR a).cr.length c3_0c)) := kx3b2 4
  have kx3b2_5 : w8.cell? ⟨g3b2, 5, none⟩ = some ((.slice A3_0l (nmR a).lp.length c3_0l)) := kx3b2 5
  have kx3b2_6 : w8.cell? ⟨g3b2, 6, none⟩ = some ((.slice A3_0d (nmR a).dr.length c3_0d)) := kx3b2 6
  clear kx3b2
  go_wp2_with fail
  clear kx1b1_0 kx1b1_1 kx1b1_2 kx1b1_3 kx1b1_4 kx1b1_5 kx1b1_6 lx1b1 kx3b2_0 kx3b2_1 kx3b2_2 kx3b2_3 kx3b2_4 kx3b2_5 kx3b2_6 lx3b2
  have hS8b3 := hS8.join (al1 _ _) (hs_bx w8 #[.int .i64 ((nmR a).wd), .int .i64 ((nmR a).rk), (.slice A8_0f (nmR a).fr.length c8_0f), (.slice A8_0b (nmR a).bk.length c8_0b), (.slice A8_0c (nmR a).cr.length c8_0c), (.slice A8_0l (nmR a).lp.length c8_0l), (.slice A8_0d (nmR a).dr.length c8_0d)] 27)
  have hb8b3 := hb8.trans ((al1 w8 (.cells #[.int .i64 ((nmR a).wd), .int .i64 ((nmR a).rk), (.slice A8_0f (nmR a).fr.length c8_0f), (.slice A8_0b (nmR a).bk.length c8_0b), (.slice A8_0c (nmR a).cr.length c8_0c), (.slice A8_0l (nmR a).lp.length c8_0l), (.slice A8_0d (nmR a).dr.length c8_0d)] 27)).mono hb8.size)
  clear hb8 hS8
  generalize hg8b3 : w8.heap.size = g8b3 at *
  generalize hw8b3 : w8.alloc (.cells #[.int .i64 ((nmR a).wd), .int .i64 ((nmR a).rk), (.slice A8_0f (nmR a).fr.length c8_0f), (.slice A8_0b (nmR a).bk.length c8_0b), (.slice A8_0c (nmR a).cr.length c8_0c), (.slice A8_0l (nmR a).lp.length c8_0l), (.slice A8_0d (nmR a).dr.length c8_0d)] 27) = w9 at *
  clear hg8b3 hw8b3
  have hS9 := hS8b3
  have hb9 := hb8b3
  clear hS8b3 hb8b3
  refine (eqMac_yes (Hs.rdM [mac_ ((.slice A1_0f (nmR a).fr.length c1_0f)) ((.slice A1_0b (nmR a).bk.length c1_0b)) ((.slice A1_0c (nmR a).cr.length c1_0c)) ((.slice A1_0l (nmR a).lp.length c1_0l)) ((.slice A1_0d (nmR a).dr.length c1_0d)) (nmR a), bx_ g1b1 #[.int .i64 ((nmR a).wd), .int .i64 ((nmR a).rk), (.slice A1_0f (nmR a).fr.length c1_0f), (.slice A1_0b (nmR a).bk.length c1_0b), (.slice A1_0c (nmR a).cr.length c1_0c), (.slice A1_0l (nmR a).lp.length c1_0l), (.slice A1_0d (nmR a).dr.length c1_0d)] 27, mac_ ((.slice A3_0f (nmR a).fr.length c3_0f)) ((.slice A3_0b (nmR a).bk.length c3_0b)) ((.slice A3_0c (nmR a).cr.length c3_0c)) ((.slice A3_0l (nmR a).lp.length c3_0l)) ((.slice A3_0d (nmR a).dr.length c3_0d)) (Mac.mark (1) (nmR a)), bx_ g3b2 #[.int .i64 ((nmR a).wd), .int .i64 ((nmR a).rk), (.slice A3_0f (nmR a).fr.length c3_0f), (.slice A3_0b (nmR a).bk.length c3_0b), (.slice A3_0c (nmR a).cr.length c3_0c), (.slice A3_0l (nmR a).lp.length c3_0l), (.slice A3_0d (nmR a).dr.length c3_0d)] 27] [bx_ g8b3 #[.int .i64 ((nmR a).wd), .int .i64 ((nmR a).rk), (.slice A8_0f (nmR a).fr.length c8_0f), (.slice A8_0b (nmR a).bk.length c8_0b), (.slice A8_0c (nmR a).cr.length c8_0c), (.slice A8_0l (nmR a).lp.length c8_0l), (.slice A8_0d (nmR a).dr.length c8_0d)] 27] hS9) (Hs.rdM [] [bx_ g1b1 #[.int .i64 ((nmR a).wd), .int .i64 ((nmR a).rk), (.slice A1_0f (nmR a).fr.length c1_0f), (.slice A1_0b (nmR a).bk.length c1_0b), (.slice A1_0c (nmR a).cr.length c1_0c), (.slice A1_0l (nmR a).lp.length c1_0l), (.slice A1_0d (nmR a).dr.length c1_0d)] 27, mac_ ((.slice A3_0f (nmR a).fr.length c3_0f)) ((.slice A3_0b (nmR a).bk.length c3_0b)) ((.slice A3_0c (nmR a).cr.length c3_0c)) ((.slice A3_0l (nmR a).lp.length c3_0l)) ((.slice A3_0d (nmR a).dr.length c3_0d)) (Mac.mark (1) (nmR a)), bx_ g3b2 #[.int .i64 ((nmR a).wd), .int .i64 ((nmR a).rk), (.slice A3_0f (nmR a).fr.length c3_0f), (.slice A3_0b (nmR a).bk.length c3_0b), (.slice A3_0c (nmR a).cr.length c3_0c), (.slice A3_0l (nmR a).lp.length c3_0l), (.slice A3_0d (nmR a).dr.length c3_0d)] 27, mac_ ((.slice A8_0f (nmR a).fr.length c8_0f)) ((.slice A8_0b (nmR a).bk.length c8_0b)) ((.slice A8_0c (nmR a).cr.length c8_0c)) ((.slice A8_0l (nmR a).lp.length c8_0l)) ((.slice A8_0d (nmR a).dr.length c8_0d)) (nmR a), bx_ g8b3 #[.int .i64 ((nmR a).wd), .int .i64 ((nmR a).rk), (.slice A8_0f (nmR a).fr.length c8_0f), (.slice A8_0b (nmR a).bk.length c8_0b), (.slice A8_0c (nmR a).cr.length c8_0c), (.slice A8_0l (nmR a).lp.length c8_0l), (.slice A8_0d (nmR a).dr.length c8_0d)] 27] hS9) (Nat.le_refl _) (Nat.le_refl _)).mono ?_
  rintro e w10 ⟨rfl, hq⟩
  have hb10 := hb9.trans (hq.mono hb9.size)
  have hS10 := hS9.below hq
  clear hb9 hS9 hq
  obtain ⟨kx1b1, -, lx1b1, -⟩ := Hs.bx [mac_ ((.slice A1_0f (nmR a).fr.length c1_0f)) ((.slice A1_0b (nmR a).bk.length c1_0b)) ((.slice A1_0c (nmR a).cr.length c1_0c)) ((.slice A1_0l (nmR a).lp.length c1_0l)) ((.slice A1_0d (nmR a).dr.length c1_0d)) (nmR a)] [mac_ ((.slice A3_0f (nmR a).fr.length c3_0f)) ((.slice A3_0b (nmR a).bk.length c3_0b)) ((.slice A3_0c (nmR a).cr.length c3_0c)) ((.slice A3_0l (nmR a).lp.length c3_0l)) ((.slice A3_0d (nmR a).dr.length c3_0d)) (Mac.mark (1) (nmR a)), bx_ g3b2 #[.int .i64 ((nmR a).wd), .int .i64 ((nmR a).rk), (.slice A3_0f (nmR a).fr.length c3_0f), (.slice A3_0b (nmR a).bk.length c3_0b), (.slice A3_0c (nmR a).cr.length c3_0c), (.slice A3_0l (nmR a).lp.length c3_0l), (.slice A3_0d (nmR a).dr.length c3_0d)] 27, mac_ ((.slice A8_0f (nmR a).fr.length c8_0f)) ((.slice A8_0b (nmR a).bk.length c8_0b)) ((.slice A8_0c (nmR a).cr.length c8_0c)) ((.slice A8_0l (nmR a).lp.length c8_0l)) ((.slice A8_0d (nmR a).dr.length c8_0d)) (nmR a), bx_ g8b3 #[.int .i64 ((nmR a).wd), .int .i64 ((nmR a).rk), (.slice A8_0f (nmR a).fr.length c8_0f), (.slice A8_0b (nmR a).bk.length c8_0b), (.slice A8_0c (nmR a).cr.length c8_0c), (.slice A8_0l (nmR a).lp.length c8_0l), (.slice A8_0d (nmR a).dr.length c8_0d)] 27] hS10
  have kx1b1_0 : w10.cell? ⟨g1b1, 0, none⟩ = some (.int .i64 ((nmR a).wd)) := kx1b1 0
  have kx1b1_1 : w10.cell? ⟨g1b1, 1, none⟩ = some (.int .i64 ((nmR a).rk)) := kx1b1 1
  have kx1b1_2 : w10.cell? ⟨g1b1, 2, none⟩ = some ((.slice A1_0f (nmR a).fr.length c1_0f)) := kx1b1 2
  have kx1b1_3 : w10.cell? ⟨g1b1, 3, none⟩ = some ((.slice A1_0b (nmR a).bk.length c1_0b)) := kx1b1 3
  have kx1b1_4 : w10.cell? ⟨g1b1, 4, none⟩ = some ((.slice A1_0c (nmR a).cr.length c1_0c)) := kx1b1 4
  have kx1b1_5 : w10.cell? ⟨g1b1, 5, none⟩ = some ((.slice A1_0l (nmR a).lp.length c1_0l)) := kx1b1 5
  have kx1b1_6 : w10.cell? ⟨g1b1, 6, none⟩ = some ((.slice A1_0d (nmR a).dr.length c1_0d)) := kx1b1 6
  clear kx1b1
  obtain ⟨kx3b2, -, lx3b2, -⟩ := Hs.bx [mac_ ((.slice A1_0f (nmR a).fr.length c1_0f)) ((.slice A1_0b (nmR a).bk.length c1_0b)) ((.slice A1_0c (nmR a).cr.length c1_0c)) ((.slice A1_0l (nmR a).lp.length c1_0l)) ((.slice A1_0d (nmR a).dr.length c1_0d)) (nmR a), bx_ g1b1 #[.int .i64 ((nmR a).wd), .int .i64 ((nmR a).rk), (.slice A1_0f (nmR a).fr.length c1_0f), (.slice A1_0b (nmR a).bk.length c1_0b), (.slice A1_0c (nmR a).cr.length c1_0c), (.slice A1_0l (nmR a).lp.length c1_0l), (.slice A1_0d (nmR a).dr.length c1_0d)] 27, mac_ ((.slice A3_0f (nmR a).fr.length c3_0f)) ((.slice A3_0b (nmR a).bk.length c3_0b)) ((.slice A3_0c (nmR a).cr.length c3_0c)) ((.slice A3_0l (nmR a).lp.length c3_0l)) ((.slice A3_0d (nmR a).dr.length c3_0d)) (Mac.mark (1) (nmR a))] [mac_ ((.slice A8_0f (nmR a).fr.length c8_0f)) ((.slice A8_0b (nmR a).bk.length c8_0b)) ((.slice A8_0c (nmR a).cr.length c8_0c)) ((.slice A8_0l (nmR a).lp.length c8_0l)) ((.slice A8_0d (nmR a).dr.length c8_0d)) (nmR a), bx_ g8b3 #[.int .i64 ((nmR a).wd), .int .i64 ((nmR a).rk), (.slice A8_0f (nmR a).fr.length c8_0f), (.slice A8_0b (nmR a).bk.length c8_0b), (.slice A8_0c (nmR a).cr.length c8_0c), (.slice A8_0l (nmR a).lp.length c8_0l), (.slice A8_0d (nmR a).dr.length c8_0d)] 27] hS10
  have kx3b2_0 : w10.cell? ⟨g3b2, 0, none⟩ = some (.int .i64 ((nmR a).wd)) := kx3b2 0
  have kx3b2_1 : w10.cell? ⟨g3b2, 1, none⟩ = some (.int .i64 ((nmR a).rk)) := kx3b2 1
  have kx3b2_2 : w10.cell? ⟨g3b2, 2, none⟩ = some ((.slice A3_0f (nmR a).fr.length c3_0f)) := kx3b2 2
  have kx3b2_3 : w10.cell? ⟨g3b2, 3, none⟩ = some ((.slice A3_0b (nmR a).bk.length c3_0b)) := kx3b2 3
  have kx3b2_4 : w10.cell? ⟨g3b2, 4, none⟩ = some ((.slice A3_0c (nmR a).cr.length c3_0c)) := kx3b2 4
  have kx3b2_5 : w10.cell? ⟨g3b2, 5, none⟩ = some ((.slice A3_0l (nmR a).lp.length c3_0l)) := kx3b2 5
  have kx3b2_6 : w10.cell? ⟨g3b2, 6, none⟩ = some ((.slice A3_0d (nmR a).dr.length c3_0d)) := kx3b2 6
  clear kx3b2
  obtain ⟨kx8b3, -, lx8b3, -⟩ := Hs.bx [mac_ ((.slice A1_0f (nmR a).fr.length c1_0f)) ((.slice A1_0b (nmR a).bk.length c1_0b)) ((.slice A1_0c (nmR a).cr.length c1_0c)) ((.slice A1_0l (nmR a).lp.length c1_0l)) ((.slice A1_0d (nmR a).dr.length c1_0d)) (nmR a), bx_ g1b1 #[.int .i64 ((nmR a).wd), .int .i64 ((nmR a).rk), (.slice A1_0f (nmR a).fr.length c1_0f), (.slice A1_0b (nmR a).bk.length c1_0b), (.slice A1_0c (nmR a).cr.length c1_0c), (.slice A1_0l (nmR a).lp.length c1_0l), (.slice A1_0d (nmR a).dr.length c1_0d)] 27, mac_ ((.slice A3_0f (nmR a).fr.length c3_0f)) ((.slice A3_0b (nmR a).bk.length c3_0b)) ((.slice A3_0c (nmR a).cr.length c3_0c)) ((.slice A3_0l (nmR a).lp.length c3_0l)) ((.slice A3_0d (nmR a).dr.length c3_0d)) (Mac.mark (1) (nmR a)), bx_ g3b2 #[.int .i64 ((nmR a).wd), .int .i64 ((nmR a).rk), (.slice A3_0f (nmR a).fr.length c3_0f), (.slice A3_0b (nmR a).bk.length c3_0b), (.slice A3_0c (nmR a).cr.length c3_0c), (.slice A3_0l (nmR a).lp.length c3_0l), (.slice A3_0d (nmR a).dr.length c3_0d)] 27, mac_ ((.slice A8_0f (nmR a).fr.length c8_0f)) ((.slice A8_0b (nmR a).bk.length c8_0b)) ((.slice A8_0c (nmR a).cr.length c8_0c)) ((.slice A8_0l (nmR a).lp.length c8_0l)) ((.slice A8_0d (nmR a).dr.length c8_0d)) (nmR a)] [] hS10
  have kx8b3_0 : w10.cell? ⟨g8b3, 0, none⟩ = some (.int .i64 ((nmR a).wd)) := kx8b3 0
  have kx8b3_1 : w10.cell? ⟨g8b3, 1, none⟩ = some (.int .i64 ((nmR a).rk)) := kx8b3 1
  have kx8b3_2 : w10.cell? ⟨g8b3, 2, none⟩ = some ((.slice A8_0f (nmR a).fr.length c8_0f)) := kx8b3 2
  have kx8b3_3 : w10.cell? ⟨g8b3, 3, none⟩ = some ((.slice A8_0b (nmR a).bk.length c8_0b)) := kx8b3 3
  have kx8b3_4 : w10.cell? ⟨g8b3, 4, none⟩ = some ((.slice A8_0c (nmR a).cr.length c8_0c)) := kx8b3 4
  have kx8b3_5 : w10.cell? ⟨g8b3, 5, none⟩ = some ((.slice A8_0l (nmR a).lp.length c8_0l)) := kx8b3 5
  have kx8b3_6 : w10.cell? ⟨g8b3, 6, none⟩ = some ((.slice A8_0d (nmR a).dr.length c8_0d)) := kx8b3 6
  clear kx8b3
  go_wp2_with fail
  clear kx1b1_0 kx1b1_1 kx1b1_2 kx1b1_3 kx1b1_4 kx1b1_5 kx1b1_6 lx1b1 kx3b2_0 kx3b2_1 kx3b2_2 kx3b2_3 kx3b2_4 kx3b2_5 kx3b2_6 lx3b2 kx8b3_0 kx8b3_1 kx8b3_2 kx8b3_3 kx8b3_4 kx8b3_5 kx8b3_6 lx8b3
  refine (heldMac_any (k := 1) (m := nmR a) (Hs.rdM [mac_ ((.slice A1_0f (nmR a).fr.length c1_0f)) ((.slice A1_0b (nmR a).bk.length c1_0b)) ((.slice A1_0c (nmR a).cr.length c1_0c)) ((.slice A1_0l (nmR a).lp.length c1_0l)) ((.slice A1_0d (nmR a).dr.length c1_0d)) (nmR a), bx_ g1b1 #[.int .i64 ((nmR a).wd), .int .i64 ((nmR a).rk), (.slice A1_0f (nmR a).fr.length c1_0f), (.slice A1_0b (nmR a).bk.length c1_0b), (.slice A1_0c (nmR a).cr.length c1_0c), (.slice A1_0l (nmR a).lp.length c1_0l), (.slice A1_0d (nmR a).dr.length c1_0d)] 27] [bx_ g3b2 #[.int .i64 ((nmR a).wd), .int .i64 ((nmR a).rk), (.slice A3_0f (nmR a).fr.length c3_0f), (.slice A3_0b (nmR a).bk.length c3_0b), (.slice A3_0c (nmR a).cr.length c3_0c), (.slice A3_0l (nmR a).lp.length c3_0l), (.slice A3_0d (nmR a).dr.length c3_0d)] 27, mac_ ((.slice A8_0f (nmR a).fr.length c8_0f)) ((.slice A8_0b (nmR a).bk.length c8_0b)) ((.slice A8_0c (nmR a).cr.length c8_0c)) ((.slice A8_0l (nmR a).lp.length c8_0l)) ((.slice A8_0d (nmR a).dr.length c8_0d)) (nmR a), bx_ g8b3 #[.int .i64 ((nmR a).wd), .int .i64 ((nmR a).rk), (.slice A8_0f (nmR a).fr.length c8_0f), (.slice A8_0b (nmR a).bk.length c8_0b), (.slice A8_0c (nmR a).cr.length c8_0c), (.slice A8_0l (nmR a).lp.length c8_0l), (.slice A8_0d (nmR a).dr.length c8_0d)] 27] hS10) (Nat.le_refl _) (nm_five a) (by have := (nm_marks a); omega) (by have := (nm_marks a); omega) (by omega) (by omega)).mono ?_
  rintro e w11 ⟨rfl, hq⟩
  have hb11 := hb10.trans (hq.mono hb10.size)
  have hS11 := hS10.below hq
  clear hb10 hS10 hq
  obtain ⟨kx1b1, -, lx1b1, -⟩ := Hs.bx [mac_ ((.slice A1_0f (nmR a).fr.length c1_0f)) ((.slice A1_0b (nmR a).bk.length c1_0b)) ((.slice A1_0c (nmR a).cr.length c1_0c)) ((.slice A1_0l (nmR a).lp.length c1_0l)) ((.slice A1_0d (nmR a).dr.length c1_0d)) (nmR a)] [mac_ ((.slice A3_0f (nmR a).fr.length c3_0f)) ((.slice A3_0b (nmR a).bk.length c3_0b)) ((.slice A3_0c (nmR a).cr.length c3_0c)) ((.slice A3_0l (nmR a).lp.length c3_0l)) ((.slice A3_0d (nmR a).dr.length c3_0d)) (Mac.mark (1) (nmR a)), bx_ g3b2 #[.int .i64 ((nmR a).wd), .int .i64 ((nmR a).rk), (.slice A3_0f (nmR a).fr.length c3_0f), (.slice A3_0b (nmR a).bk.length c3_0b), (.slice A3_0c (nmR a).cr.length c3_0c), (.slice A3_0l (nmR a).lp.length c3_0l), (.slice A3_0d (nmR a).dr.length c3_0d)] 27, mac_ ((.slice A8_0f (nmR a).fr.length c8_0f)) ((.slice A8_0b (nmR a).bk.length c8_0b)) ((.slice A8_0c (nmR a).cr.length c8_0c)) ((.slice A8_0l (nmR a).lp.length c8_0l)) ((.slice A8_0d (nmR a).dr.length c8_0d)) (nmR a), bx_ g8b3 #[.int .i64 ((nmR a).wd), .int .i64 ((nmR a).rk), (.slice A8_0f (nmR a).fr.length c8_0f), (.slice A8_0b (nmR a).bk.length c8_0b), (.slice A8_0c (nmR a).cr.length c8_0c), (.slice A8_0l (nmR a).lp.length c8_0l), (.slice A8_0d (nmR a).dr.length c8_0d)] 27] hS11
  have kx1b1_0 : w11.cell? ⟨g1b1, 0, none⟩ = some (.int .i64 ((nmR a).wd)) := kx1b1 0
  have kx1b1_1 : w11.cell? ⟨g1b1, 1, none⟩ = some (.int .i64 ((nmR a).rk)) := kx1b1 1
  have kx1b1_2 : w11.cell? ⟨g1b1, 2, none⟩ = some ((.slice A1_0f (nmR a).fr.length c1_0f)) := kx1b1 2
  have kx1b1_3 : w11.cell? ⟨g1b1, 3, none⟩ = some ((.slice A1_0b (nmR a).bk.length c1_0b)) := kx1b1 3
  have kx1b1_4 : w11.cell? ⟨g1b1, 4, none⟩ = some ((.slice A1_0c (nmR a).cr.length c1_0c)) := kx1b1 4
  have kx1b1_5 : w11.cell? ⟨g1b1, 5, none⟩ = some ((.slice A1_0l (nmR a).lp.length c1_0l)) := kx1b1 5
  have kx1b1_6 : w11.cell? ⟨g1b1, 6, none⟩ = some ((.slice A1_0d (nmR a).dr.length c1_0d)) := kx1b1 6
  clear kx1b1
  obtain ⟨kx3b2, -, lx3b2, -⟩ := Hs.bx [mac_ ((.slice A1_0f (nmR a).fr.length c1_0f)) ((.slice A1_0b (nmR a).bk.length c1_0b)) ((.slice A1_0c (nmR a).cr.length c1_0c)) ((.slice A1_0l (nmR a).lp.length c1_0l)) ((.slice A1_0d (nmR a).dr.length c1_0d)) (nmR a), bx_ g1b1 #[.int .i64 ((nmR a).wd), .int .i64 ((nmR a).rk), (.slice A1_0f (nmR a).fr.length c1_0f), (.slice A1_0b (nmR a).bk.length c1_0b), (.slice A1_0c (nmR a).cr.length c1_0c), (.slice A1_0l (nmR a).lp.length c1_0l), (.slice A1_0d (nmR a).dr.length c1_0d)] 27, mac_ ((.slice A3_0f (nmR a).fr.length c3_0f)) ((.slice A3_0b (nmR a).bk.length c3_0b)) ((.slice A3_0c (nmR a).cr.length c3_0c)) ((.slice A3_0l (nmR a).lp.length c3_0l)) ((.slice A3_0d (nmR a).dr.length c3_0d)) (Mac.mark (1) (nmR a))] [mac_ ((.slice A8_0f (nmR a).fr.length c8_0f)) ((.slice A8_0b (nmR a).bk.length c8_0b)) ((.slice A8_0c (nmR a).cr.length c8_0c)) ((.slice A8_0l (nmR a).lp.length c8_0l)) ((.slice A8_0d (nmR a).dr.length c8_0d)) (nmR a), bx_ g8b3 #[.int .i64 ((nmR a).wd), .int .i64 ((nmR a).rk), (.slice A8_0f (nmR a).fr.length c8_0f), (.slice A8_0b (nmR a).bk.length c8_0b), (.slice A8_0c (nmR a).cr.length c8_0c), (.slice A8_0l (nmR a).lp.length c8_0l), (.slice A8_0d (nmR a).dr.length c8_0d)] 27] hS11
  have kx3b2_0 : w11.cell? ⟨g3b2, 0, none⟩ = some (.int .i64 ((nmR a).wd)) := kx3b2 0
  have kx3b2_1 : w11.cell? ⟨g3b2, 1, none⟩ = some (.int .i64 ((nmR a).rk)) := kx3b2 1
  have kx3b2_2 : w11.cell? ⟨g3b2, 2, none⟩ = some ((.slice A3_0f (nmR a).fr.length c3_0f)) := kx3b2 2
  have kx3b2_3 : w11.cell? ⟨g3b2, 3, none⟩ = some ((.slice A3_0b (nmR a).bk.length c3_0b)) := kx3b2 3
  have kx3b2_4 : w11.cell? ⟨g3b2, 4, none⟩ = some ((.slice A3_0c (nmR a).cr.length c3_0c)) := kx3b2 4
  have kx3b2_5 : w11.cell? ⟨g3b2, 5, none⟩ = some ((.slice A3_0l (nmR a).lp.length c3_0l)) := kx3b2 5
  have kx3b2_6 : w11.cell? ⟨g3b2, 6, none⟩ = some ((.slice A3_0d (nmR a).dr.length c3_0d)) := kx3b2 6
  clear kx3b2
  obtain ⟨kx8b3, -, lx8b3, -⟩ := Hs.bx [mac_ ((.slice A1_0f (nmR a).fr.length c1_0f)) ((.slice A1_0b (nmR a).bk.length c1_0b)) ((.slice A1_0c (nmR a).cr.length c1_0c)) ((.slice A1_0l (nmR a).lp.length c1_0l)) ((.slice A1_0d (nmR a).dr.length c1_0d)) (nmR a), bx_ g1b1 #[.int .i64 ((nmR a).wd), .int .i64 ((nmR a).rk), (.slice A1_0f (nmR a).fr.length c1_0f), (.slice A1_0b (nmR a).bk.length c1_0b), (.slice A1_0c (nmR a).cr.length c1_0c), (.slice A1_0l (nmR a).lp.length c1_0l), (.slice A1_0d (nmR a).dr.length c1_0d)] 27, mac_ ((.slice A3_0f (nmR a).fr.length c3_0f)) ((.slice A3_0b (nmR a).bk.length c3_0b)) ((.slice A3_0c (nmR a).cr.length c3_0c)) ((.slice A3_0l (nmR a).lp.length c3_0l)) ((.slice A3_0d (nmR a).dr.length c3_0d)) (Mac.mark (1) (nmR a)), bx_ g3b2 #[.int .i64 ((nmR a).wd), .int .i64 ((nmR a).rk), (.slice A3_0f (nmR a).fr.length c3_0f), (.slice A3_0b (nmR a).bk.length c3_0b), (.slice A3_0c (nmR a).cr.length c3_0c), (.slice A3_0l (nmR a).lp.length c3_0l), (.slice A3_0d (nmR a).dr.length c3_0d)] 27, mac_ ((.slice A8_0f (nmR a).fr.length c8_0f)) ((.slice A8_0b (nmR a).bk.length c8_0b)) ((.slice A8_0c (nmR a).cr.length c8_0c)) ((.slice A8_0l (nmR a).lp.length c8_0l)) ((.slice A8_0d (nmR a).dr.length c8_0d)) (nmR a)] [] hS11
  have kx8b3_0 : w11.cell? ⟨g8b3, 0, none⟩ = some (.int .i64 ((nmR a).wd)) := kx8b3 0
  have kx8b3_1 : w11.cell? ⟨g8b3, 1, none⟩ = some (.int .i64 ((nmR a).rk)) := kx8b3 1
  have kx8b3_2 : w11.cell? ⟨g8b3, 2, none⟩ = some ((.slice A8_0f (nmR a).fr.length c8_0f)) := kx8b3 2
  have kx8b3_3 : w11.cell? ⟨g8b3, 3, none⟩ = some ((.slice A8_0b (nmR a).bk.length c8_0b)) := kx8b3 3
  have kx8b3_4 : w11.cell? ⟨g8b3, 4, none⟩ = some ((.slice A8_0c (nmR a).cr.length c8_0c)) := kx8b3 4
  have kx8b3_5 : w11.cell? ⟨g8b3, 5, none⟩ = some ((.slice A8_0l (nmR a).lp.length c8_0l)) := kx8b3 5
  have kx8b3_6 : w11.cell? ⟨g8b3, 6, none⟩ = some ((.slice A8_0d (nmR a).dr.length c8_0d)) := kx8b3 6
  clear kx8b3
  go_wp2_with fail
  clear kx1b1_0 kx1b1_1 kx1b1_2 kx1b1_3 kx1b1_4 kx1b1_5 kx1b1_6 lx1b1 kx3b2_0 kx3b2_1 kx3b2_2 kx3b2_3 kx3b2_4 kx3b2_5 kx3b2_6 lx3b2 kx8b3_0 kx8b3_1 kx8b3_2 kx8b3_3 kx8b3_4 kx8b3_5 kx8b3_6 lx8b3
  go_ret
  exact ⟨rfl, hA0.trans (hb11.mono hB0)⟩

set_option maxRecDepth 100000 in
theorem lifted (os : Os) (started : os.Started) (H : Type) (enc : TypeId × Value → H) :
    ReturnsInHanded {} Try.checked os 3 .any (Rows.fnExactNewMachineSpec.pre6 enc Try.prog Try.f3 Rows.fnExactNewMachineRow.domain false) (Rows.fnExactNewMachineSpec.post enc Try.prog Try.f3 false true false false) := by
  refine returnsInHanded_of_change (C := Try.checked) own_knob started (by kernel_rfl) Try.func3
    (ChangeSpec.witness6 (enc := enc) (C := Try.checked) false ⟨#[], #[.int .i64 0], []⟩ 8 (by kernel_rfl) (by kernel_rfl) (by kernel_rfl) (by kernel_rfl)) ?_
  intro W base args ds gs before hval0 hW hcnd _
  have hval : ∀ (j : Nat) t v, Try.f3.params[j]? = some t → args[j]? = some v → Value.okWide Try.prog W .any base t v := hval0
  have hW' := hW
  obtain ⟨p, q, hA0, hV, rfl, hfz, hnd⟩ := hW
  have hA : DataW.TrodAll enc Try.prog W 0 (fun _ => true) true Try.f3.params.toList args.toList ds p := hA0
  rw [Try.params3] at hA hval
  obtain ⟨v0, vs0, d0, ds0, p0, q0, hargs, rfl, rfl, h0, r0⟩ := trodAll_cons hA
  obtain ⟨rfl, rfl, rfl⟩ := trodAll_nil r0
  obtain rfl : args = #[v0] := by cases args; simp_all
  obtain ⟨rfl, rfl⟩ := trodVars_none hV
  have k0 := h0
  have lt0 : ∀ x ∈ p0, x.block < W.heap.size := by obtain ⟨m, hm⟩ := k0; exact DataW.trod_lt m _ _ _ hm
  obtain ⟨a, rfl, b0⟩ := open_I (hval 0 2 v0 rfl rfl) h0
  clear hA0 hval0
  refine (walk a W b0).mono fun e W' ⟨he, bel⟩ => ?_
  subst he
  exact ⟨_, rfl, _, _, _, [], _, [], hW', trodAll_mk1 (shut_bool Try.underlying4 _), (trodAll_cons_mk (Below.trod laid_out (by kernel_rfl) (of_decide_eq_true (by kernel_rfl)) k0 bel lt0) trodAll_mk0), rfl, bel.frame _, fun h => by cases h⟩

/-- The statement. -/
theorem proved : Rows.FnExactNewMachineSaid :=
  OpenClaim.holds_of_wide 3 Try.f3 rfl rfl rfl rfl rfl rfl rfl ⟨rfl, rfl, rfl, rfl, rfl⟩ rfl rfl rfl rfl rfl (by kernel_rfl) Try.func3 (by kernel_rfl)
    (of_decide_eq_true (by kernel_rfl)) (by unfold Func.isWrapper; first | (rw [if_pos (by decide +kernel)]; kernel_rfl) | (rw [if_neg (by decide +kernel)]; exact ⟨rfl, rfl⟩))
    (fun os started H enc _ => lifted os started H enc)
#print axioms proved
end Go.Proofs.Ytbefioljddhhpaa.fnExactNewMachine
