/-
  Contracts: NewMachine of both. Printed by gen_mn3.py.
-/
import Derived.Test.YtbefioljddhhpaaMn2
namespace Go.Proofs.Ytbefioljddhhpaa
set_option maxRecDepth 10000
open Go.RowKit

def nmR (a : Int) : Mac := if inR a 1 24 then newM a else zeroM
def nmC (a : Int) : Int := if inR a 1 24 then 0 else 2
theorem hs_zeroM (w : World) : Hs w w.heap.size [mac_ (.slice none 0 0) (.slice none 0 0) (.slice none 0 0) (.slice none 0 0) (.slice none 0 0) zeroM] :=
  Hs.mac (m := zeroM) ((((hs_nilS.join (Below.refl _ _) hs_nilS).join (Below.refl _ _) (hs_owc (e := 78) (z := 2) (OwC.nil _ _ _ _) (Below.refl _ _))).join (Below.refl _ _) hs_nilF).join (Below.refl _ _) hs_nilI)
theorem nm_five (a : Int) : Five (nmR a).lp := by unfold nmR; split <;> (intro o ho; simp [newM, zeroM] at ho)
theorem nm_marks (a : Int) : (nmR a).marks ≤ 1000 ∧ (nmR a).cr.length ≤ 4 := by
  have h : ∀ n : Nat, lenSS (List.replicate n []) = 0 := fun n => by induction n with
    | zero => rfl
    | succ n ih => rw [List.replicate_succ]; simp [lenSS, ih]
  unfold nmR
  split <;> simp [newM, zeroM, Mac.marks, h, lenSS]
set_option maxRecDepth 100000 in
set_option maxHeartbeats 3200000 in
theorem spec_NewMachine_any (a : Int) (w : World) :
    Calls Try.prog 12 #[.int .i64 a] w fun e w' => ∃ f b c l d, e = .returned (.tuple #[.agg #[.int .i64 (nmR a).wd, .int .i64 (nmR a).rk, f, b, c, l, d], .int .i64 (nmC a)]) ∧ Hs w' w.heap.size [mac_ f b c l d (nmR a)] ∧ Below w.heap.size w w' := by
  have hSb := hs_bx w #[.int .i64 0, .int .i64 0, .slice none 0 0, .slice none 0 0, .slice none 0 0, .slice none 0 0, .slice none 0 0] 27
  have hbb := al1 w (.cells #[.int .i64 0, .int .i64 0, .slice none 0 0, .slice none 0 0, .slice none 0 0, .slice none 0 0, .slice none 0 0] 27)
  have HSB := Lib.hid hSb
  have HBB := Lib.hid hbb
  clear hSb hbb
  cases hg : inR a 1 24
  · have e1 : nmR a = zeroM := by unfold nmR; rw [hg]; rfl
    have e2 : nmC a = 2 := by unfold nmC; rw [hg]; rfl
    rw [e1, e2]
    clear e1 e2
    go_enter Try.func12, Try.ntmps12
    go_wp2_with (go_at_call 44; refine (l00In_any _ _ _ _).mono ?_; rintro e w1 ⟨rfl, rfl⟩; rw [hg])
    obtain ⟨ky, -, -, -⟩ := Hs.bx [] [] HSB.out
    have n0 : (w.alloc (.cells #[.int .i64 0, .int .i64 0, .slice none 0 0, .slice none 0 0, .slice none 0 0, .slice none 0 0, .slice none 0 0] 27)).cell? ⟨w.heap.size, 0, none⟩ = some (.int .i64 0) := ky 0
    have n1 : (w.alloc (.cells #[.int .i64 0, .int .i64 0, .slice none 0 0, .slice none 0 0, .slice none 0 0, .slice none 0 0, .slice none 0 0] 27)).cell? ⟨w.heap.size, 1, none⟩ = some (.int .i64 0) := ky 1
    have n2 : (w.alloc (.cells #[.int .i64 0, .int .i64 0, .slice none 0 0, .slice none 0 0, .slice none 0 0, .slice none 0 0, .slice none 0 0] 27)).cell? ⟨w.heap.size, 2, none⟩ = some (.slice none 0 0) := ky 2
    have n3 : (w.alloc (.cells #[.int .i64 0, .int .i64 0, .slice none 0 0, .slice none 0 0, .slice none 0 0, .slice none 0 0, .slice none 0 0] 27)).cell? ⟨w.heap.size, 3, none⟩ = some (.slice none 0 0) := ky 3
    have n4 : (w.alloc (.cells #[.int .i64 0, .int .i64 0, .slice none 0 0, .slice none 0 0, .slice none 0 0, .slice none 0 0, .slice none 0 0] 27)).cell? ⟨w.heap.size, 4, none⟩ = some (.slice none 0 0) := ky 4
    have n5 : (w.alloc (.cells #[.int .i64 0, .int .i64 0, .slice none 0 0, .slice none 0 0, .slice none 0 0, .slice none 0 0, .slice none 0 0] 27)).cell? ⟨w.heap.size, 5, none⟩ = some (.slice none 0 0) := ky 5
    have n6 : (w.alloc (.cells #[.int .i64 0, .int .i64 0, .slice none 0 0, .slice none 0 0, .slice none 0 0, .slice none 0 0, .slice none 0 0] 27)).cell? ⟨w.heap.size, 6, none⟩ = some (.slice none 0 0) := ky 6
    refine bodyPost_ret (v := .tuple #[.agg #[.int .i64 0, .int .i64 0, .slice none 0 0, .slice none 0 0, .slice none 0 0, .slice none 0 0, .slice none 0 0], .int .i64 2]) (by simp [results, Try.results12, go_sem]) rfl ?_
    exact ⟨_, _, _, _, _, rfl, (hs_zeroM _).mono HBB.out.size, HBB.out⟩
  · have e1 : nmR a = newM a := by unfold nmR; rw [hg]; rfl
    have e2 : nmC a = 0 := by unfold nmC; rw [hg]; rfl
    rw [e1, e2]
    clear e1 e2
    have hr := inR_iff.1 hg
    obtain ⟨hr0, hr1⟩ := hr
    go_enter Try.func12, Try.ntmps12
    go_wp2_with (go_at_call 44; refine (l00In_any _ _ _ _).mono ?_; rintro e w1 ⟨rfl, rfl⟩; rw [hg])
    refine (l07New_any a _ hr0 hr1).mono ?_
    rintro e w1 ⟨f, b, c, l, d, rfl, ho, hq⟩
    have hS := HSB.out.join hq ho
    have hb := HBB.out.trans (hq.mono HBB.out.size)
    clear HSB HBB ho hq
    obtain ⟨Af, kf, rfl, -⟩ := id (Hs.rdM [_] [] hS).fr
    obtain ⟨Ab, kb, rfl, -⟩ := id (Hs.rdM [_] [] hS).bk
    obtain ⟨Ac, kc, rfl, -⟩ := id (Hs.rdM [_] [] hS).cr.cells
    obtain ⟨Al, kl, rfl, -⟩ := id (Hs.rdM [_] [] hS).lp.cells
    obtain ⟨Ad, kd, rfl, -⟩ := id (Hs.rdM [_] [] hS).dr
    generalize hMM : newM a = M at *
    obtain ⟨ky, fy, -, -⟩ := Hs.bx [] [mac_ (.slice Af M.fr.length kf) (.slice Ab M.bk.length kb) (.slice Ac M.cr.length kc) (.slice Al M.lp.length kl) (.slice Ad M.dr.length kd) M] hS
    have v0 : w1.cell? ⟨w.heap.size, 0, none⟩ = some (.int .i64 0) := ky 0
    have t0 : w1.frozen? ⟨w.heap.size, 0, none⟩ = false := fy 0
    have v1 : w1.cell? ⟨w.heap.size, 1, none⟩ = some (.int .i64 0) := ky 1
    have t1 : w1.frozen? ⟨w.heap.size, 1, none⟩ = false := fy 1
    have v2 : w1.cell? ⟨w.heap.size, 2, none⟩ = some (.slice none 0 0) := ky 2
    have t2 : w1.frozen? ⟨w.heap.size, 2, none⟩ = false := fy 2
    have v3 : w1.cell? ⟨w.heap.size, 3, none⟩ = some (.slice none 0 0) := ky 3
    have t3 : w1.frozen? ⟨w.heap.size, 3, none⟩ = false := fy 3
    have v4 : w1.cell? ⟨w.heap.size, 4, none⟩ = some (.slice none 0 0) := ky 4
    have t4 : w1.frozen? ⟨w.heap.size, 4, none⟩ = false := fy 4
    have v5 : w1.cell? ⟨w.heap.size, 5, none⟩ = some (.slice none 0 0) := ky 5
    have t5 : w1.frozen? ⟨w.heap.size, 5, none⟩ = false := fy 5
    have v6 : w1.cell? ⟨w.heap.size, 6, none⟩ = some (.slice none 0 0) := ky 6
    have t6 : w1.frozen? ⟨w.heap.size, 6, none⟩ = false := fy 6
    clear ky fy
    have hS : Hs (w1.setCell ⟨w.heap.size, 0, none⟩ (.int .i64 a)) w.heap.size [bx_ (w.heap.size) #[.int .i64 a, .int .i64 0, .slice none 0 0, .slice none 0 0, .slice none 0 0, .slice none 0 0, .slice none 0 0] 27, mac_ (.slice Af M.fr.length kf) (.slice Ab M.bk.length kb) (.slice Ac M.cr.length kc) (.slice Al M.lp.length kl) (.slice Ad M.dr.length kd) M] := Hs.setBx [] [mac_ (.slice Af M.fr.length kf) (.slice Ab M.bk.length kb) (.slice Ac M.cr.length kc) (.slice Al M.lp.length kl) (.slice Ad M.dr.length kd) M] hS 0 (.int .i64 a)
    have hb : Below w.heap.size w (w1.setCell ⟨w.heap.size, 0, none⟩ (.int .i64 a)) := setB (by exact Nat.le_refl _) hb
    have hS : Hs ((w1.setCell ⟨w.heap.size, 0, none⟩ (.int .i64 a)).setCell ⟨w.heap.size, 1, none⟩ (.int .i64 0)) w.heap.size [bx_ (w.heap.size) #[.int .i64 a, .int .i64 0, .slice none 0 0, .slice none 0 0, .slice none 0 0, .slice none 0 0, .slice none 0 0] 27, mac_ (.slice Af M.fr.length kf) (.slice Ab M.bk.length kb) (.slice Ac M.cr.length kc) (.slice Al M.lp.length kl) (.slice Ad M.dr.length kd) M] := Hs.setBx [] [mac_ (.slice Af M.fr.length kf) (.slice Ab M.bk.length kb) (.slice Ac M.cr.length kc) (.slice Al M.lp.length kl) (.slice Ad M.dr.length kd) M] hS 1 (.int .i64 0)
    have hb : Below w.heap.size w ((w1.setCell ⟨w.heap.size, 0, none⟩ (.int .i64 a)).setCell ⟨w.heap.size, 1, none⟩ (.int .i64 0)) := setB (by exact Nat.le_refl _) hb
    have hS : Hs (((w1.setCell ⟨w.heap.size, 0, none⟩ (.int .i64 a)).setCell ⟨w.heap.size, 1, none⟩ (.int .i64 0)).setCell ⟨w.heap.size, 2, none⟩ (.slice Af M.fr.length kf)) w.heap.size [bx_ (w.heap.size) #[.int .i64 a, .int .i64 0, .slice Af M.fr.length kf, .slice none 0 0, .slice none 0 0, .slice none 0 0, .slice none 0 0] 27, mac_ (.slice Af M.fr.length kf) (.slice Ab M.bk.length kb) (.slice Ac M.cr.length kc) (.slice Al M.lp.length kl) (.slice Ad M.dr.length kd) M] := Hs.setBx [] [mac_ (.slice Af M.fr.length kf) (.slice Ab M.bk.length kb) (.slice Ac M.cr.length kc) (.slice Al M.lp.length kl) (.slice Ad M.dr.length kd) M] hS 2 (.slice Af M.fr.length kf)
    have hb : Below w.heap.size w (((w1.setCell ⟨w.heap.size, 0, none⟩ (.int .i64 a)).setCell ⟨w.heap.size, 1, none⟩ (.int .i64 0)).setCell ⟨w.heap.size, 2, none⟩ (.slice Af M.fr.length kf)) := setB (by exact Nat.le_refl _) hb
    have hS : Hs ((((w1.setCell ⟨w.heap.size, 0, none⟩ (.int .i64 a)).setCell ⟨w.heap.size, 1, none⟩ (.int .i64 0)).setCell ⟨w.heap.size, 2, none⟩ (.slice Af M.fr.length kf)).setCell ⟨w.heap.size, 3, none⟩ (.slice Ab M.bk.length kb)) w.heap.size [bx_ (w.heap.size) #[.int .i64 a, .int .i64 0, .slice Af M.fr.length kf, .slice Ab M.bk.length kb, .slice none 0 0, .slice none 0 0, .slice none 0 0] 27, mac_ (.slice Af M.fr.length kf) (.slice Ab M.bk.length kb) (.slice Ac M.cr.length kc) (.slice Al M.lp.length kl) (.slice Ad M.dr.length kd) M] := Hs.setBx [] [mac_ (.slice Af M.fr.length kf) (.slice Ab M.bk.length kb) (.slice Ac M.cr.length kc) (.slice Al M.lp.length kl) (.slice Ad M.dr.length kd) M] hS 3 (.slice Ab M.bk.length kb)
    have hb : Below w.heap.size w ((((w1.setCell ⟨w.heap.size, 0, none⟩ (.int .i64 a)).setCell ⟨w.heap.size, 1, none⟩ (.int .i64 0)).setCell ⟨w.heap.size, 2, none⟩ (.slice Af M.fr.length kf)).setCell ⟨w.heap.size, 3, none⟩ (.slice Ab M.bk.length kb)) := setB (by exact Nat.le_refl _) hb
    have hS : Hs (((((w1.setCell ⟨w.heap.size, 0, none⟩ (.int .i64 a)).setCell ⟨w.heap.size, 1, none⟩ (.int .i64 0)).setCell ⟨w.heap.size, 2, none⟩ (.slice Af M.fr.length kf)).setCell ⟨w.heap.size, 3, none⟩ (.slice Ab M.bk.length kb)).setCell ⟨w.heap.size, 4, none⟩ (.slice Ac M.cr.length kc)) w.heap.size [bx_ (w.heap.size) #[.int .i64 a, .int .i64 0, .slice Af M.fr.length kf, .slice Ab M.bk.length kb, .slice Ac M.cr.length kc, .slice none 0 0, .slice none 0 0] 27, mac_ (.slice Af M.fr.length kf) (.slice Ab M.bk.length kb) (.slice Ac M.cr.length kc) (.slice Al M.lp.length kl) (.slice Ad M.dr.length kd) M] := Hs.setBx [] [mac_ (.slice Af M.fr.length kf) (.slice Ab M.bk.length kb) (.slice Ac M.cr.length kc) (.slice Al M.lp.length kl) (.slice Ad M.dr.length kd) M] hS 4 (.slice Ac M.cr.length kc)
    have hb : Below w.heap.size w (((((w1.setCell ⟨w.heap.size, 0, none⟩ (.int .i64 a)).setCell ⟨w.heap.size, 1, none⟩ (.int .i64 0)).setCell ⟨w.heap.size, 2, none⟩ (.slice Af M.fr.length kf)).setCell ⟨w.heap.size, 3, none⟩ (.slice Ab M.bk.length kb)).setCell ⟨w.heap.size, 4, none⟩ (.slice Ac M.cr.length kc)) := setB (by exact Nat.le_refl _) hb
    have hS : Hs ((((((w1.setCell ⟨w.heap.size, 0, none⟩ (.int .i64 a)).setCell ⟨w.heap.size, 1, none⟩ (.int .i64 0)).setCell ⟨w.heap.size, 2, none⟩ (.slice Af M.fr.length kf)).setCell ⟨w.heap.size, 3, none⟩ (.slice Ab M.bk.length kb)).setCell ⟨w.heap.size, 4, none⟩ (.slice Ac M.cr.length kc)).setCell ⟨w.heap.size, 5, none⟩ (.slice Al M.lp.length kl)) w.heap.size [bx_ (w.heap.size) #[.int .i64 a, .int .i64 0, .slice Af M.fr.length kf, .slice Ab M.bk.length kb, .slice Ac M.cr.length kc, .slice Al M.lp.length kl, .slice none 0 0] 27, mac_ (.slice Af M.fr.length kf) (.slice Ab M.bk.length kb) (.slice Ac M.cr.length kc) (.slice Al M.lp.length kl) (.slice Ad M.dr.length kd) M] := Hs.setBx [] [mac_ (.slice Af M.fr.length kf) (.slice Ab M.bk.length kb) (.slice Ac M.cr.length kc) (.slice Al M.lp.length kl) (.slice Ad M.dr.length kd) M] hS 5 (.slice Al M.lp.length kl)
    have hb : Below w.heap.size w ((((((w1.setCell ⟨w.heap.size, 0, none⟩ (.int .i64 a)).setCell ⟨w.heap.size, 1, none⟩ (.int .i64 0)).setCell ⟨w.heap.size, 2, none⟩ (.slice Af M.fr.length kf)).setCell ⟨w.heap.size, 3, none⟩ (.slice Ab M.bk.length kb)).setCell ⟨w.heap.size, 4, none⟩ (.slice Ac M.cr.length kc)).setCell ⟨w.heap.size, 5, none⟩ (.slice Al M.lp.length kl)) := setB (by exact Nat.le_refl _) hb
    have hS : Hs (((((((w1.setCell ⟨w.heap.size, 0, none⟩ (.int .i64 a)).setCell ⟨w.heap.size, 1, none⟩ (.int .i64 0)).setCell ⟨w.heap.size, 2, none⟩ (.slice Af M.fr.length kf)).setCell ⟨w.heap.size, 3, none⟩ (.slice Ab M.bk.length kb)).setCell ⟨w.heap.size, 4, none⟩ (.slice Ac M.cr.length kc)).setCell ⟨w.heap.size, 5, none⟩ (.slice Al M.lp.length kl)).setCell ⟨w.heap.size, 6, none⟩ (.slice Ad M.dr.length kd)) w.heap.size [bx_ (w.heap.size) #[.int .i64 a, .int .i64 0, .slice Af M.fr.length kf, .slice Ab M.bk.length kb, .slice Ac M.cr.length kc, .slice Al M.lp.length kl, .slice Ad M.dr.length kd] 27, mac_ (.slice Af M.fr.length kf) (.slice Ab M.bk.length kb) (.slice Ac M.cr.length kc) (.slice Al M.lp.length kl) (.slice Ad M.dr.length kd) M] := Hs.setBx [] [mac_ (.slice Af M.fr.length kf) (.slice Ab M.bk.length kb) (.slice Ac M.cr.length kc) (.slice Al M.lp.length kl) (.slice Ad M.dr.length kd) M] hS 6 (.slice Ad M.dr.length kd)
    have hb : Below w.heap.size w (((((((w1.setCell ⟨w.heap.size, 0, none⟩ (.int .i64 a)).setCell ⟨w.heap.size, 1, none⟩ (.int .i64 0)).setCell ⟨w.heap.size, 2, none⟩ (.slice Af M.fr.length kf)).setCell ⟨w.heap.size, 3, none⟩ (.slice Ab M.bk.length kb)).setCell ⟨w.heap.size, 4, none⟩ (.slice Ac M.cr.length kc)).setCell ⟨w.heap.size, 5, none⟩ (.slice Al M.lp.length kl)).setCell ⟨w.heap.size, 6, none⟩ (.slice Ad M.dr.length kd)) := setB (by exact Nat.le_refl _) hb
    obtain ⟨ky, -, -, -⟩ := Hs.bx [] [mac_ (.slice Af M.fr.length kf) (.slice Ab M.bk.length kb) (.slice Ac M.cr.length kc) (.slice Al M.lp.length kl) (.slice Ad M.dr.length kd) M] hS
    have n0 : (((((((w1.setCell ⟨w.heap.size, 0, none⟩ (.int .i64 a)).setCell ⟨w.heap.size, 1, none⟩ (.int .i64 0)).setCell ⟨w.heap.size, 2, none⟩ (.slice Af M.fr.length kf)).setCell ⟨w.heap.size, 3, none⟩ (.slice Ab M.bk.length kb)).setCell ⟨w.heap.size, 4, none⟩ (.slice Ac M.cr.length kc)).setCell ⟨w.heap.size, 5, none⟩ (.slice Al M.lp.length kl)).setCell ⟨w.heap.size, 6, none⟩ (.slice Ad M.dr.length kd)).cell? ⟨w.heap.size, 0, none⟩ = some (.int .i64 a) := ky 0
    have n1 : (((((((w1.setCell ⟨w.heap.size, 0, none⟩ (.int .i64 a)).setCell ⟨w.heap.size, 1, none⟩ (.int .i64 0)).setCell ⟨w.heap.size, 2, none⟩ (.slice Af M.fr.length kf)).setCell ⟨w.heap.size, 3, none⟩ (.slice Ab M.bk.length kb)).setCell ⟨w.heap.size, 4, none⟩ (.slice Ac M.cr.length kc)).setCell ⟨w.heap.size, 5, none⟩ (.slice Al M.lp.length kl)).setCell ⟨w.heap.size, 6, none⟩ (.slice Ad M.dr.length kd)).cell? ⟨w.heap.size, 1, none⟩ = some (.int .i64 0) := ky 1
    have n2 : (((((((w1.setCell ⟨w.heap.size, 0, none⟩ (.int .i64 a)).setCell ⟨w.heap.size, 1, none⟩ (.int .i64 0)).setCell ⟨w.heap.size, 2, none⟩ (.slice Af M.fr.length kf)).setCell ⟨w.heap.size, 3, none⟩ (.slice Ab M.bk.length kb)).setCell ⟨w.heap.size, 4, none⟩ (.slice Ac M.cr.length kc)).setCell ⟨w.heap.size, 5, none⟩ (.slice Al M.lp.length kl)).setCell ⟨w.heap.size, 6, none⟩ (.slice Ad M.dr.length kd)).cell? ⟨w.heap.size, 2, none⟩ = some (.slice Af M.fr.length kf) := ky 2
    have n3 : (((((((w1.setCell ⟨w.heap.size, 0, none⟩ (.int .i64 a)).setCell ⟨w.heap.size, 1, none⟩ (.int .i64 0)).setCell ⟨w.heap.size, 2, none⟩ (.slice Af M.fr.length kf)).setCell ⟨w.heap.size, 3, none⟩ (.slice Ab M.bk.length kb)).setCell ⟨w.heap.size, 4, none⟩ (.slice Ac M.cr.length kc)).setCell ⟨w.heap.size, 5, none⟩ (.slice Al M.lp.length kl)).setCell ⟨w.heap.size, 6, none⟩ (.slice Ad M.dr.length kd)).cell? ⟨w.heap.size, 3, none⟩ = some (.slice Ab M.bk.length kb) := ky 3
    have n4 : (((((((w1.setCell ⟨w.heap.size, 0, none⟩ (.int .i64 a)).setCell ⟨w.heap.size, 1, none⟩ (.int .i64 0)).setCell ⟨w.heap.size, 2, none⟩ (.slice Af M.fr.length kf)).setCell ⟨w.heap.size, 3, none⟩ (.slice Ab M.bk.length kb)).setCell ⟨w.heap.size, 4, none⟩ (.slice Ac M.cr.length kc)).setCell ⟨w.heap.size, 5, none⟩ (.slice Al M.lp.length kl)).setCell ⟨w.heap.size, 6, none⟩ (.slice Ad M.dr.length kd)).cell? ⟨w.heap.size, 4, none⟩ = some (.slice Ac M.cr.length kc) := ky 4
    have n5 : (((((((w1.setCell ⟨w.heap.size, 0, none⟩ (.int .i64 a)).setCell ⟨w.heap.size, 1, none⟩ (.int .i64 0)).setCell ⟨w.heap.size, 2, none⟩ (.slice Af M.fr.length kf)).setCell ⟨w.heap.size, 3, none⟩ (.slice Ab M.bk.length kb)).setCell ⟨w.heap.size, 4, none⟩ (.slice Ac M.cr.length kc)).setCell ⟨w.heap.size, 5, none⟩ (.slice Al M.lp.length kl)).setCell ⟨w.heap.size, 6, none⟩ (.slice Ad M.dr.length kd)).cell? ⟨w.heap.size, 5, none⟩ = some (.slice Al M.lp.length kl) := ky 5
    have n6 : (((((((w1.setCell ⟨w.heap.size, 0, none⟩ (.int .i64 a)).setCell ⟨w.heap.size, 1, none⟩ (.int .i64 0)).setCell ⟨w.heap.size, 2, none⟩ (.slice Af M.fr.length kf)).setCell ⟨w.heap.size, 3, none⟩ (.slice Ab M.bk.length kb)).setCell ⟨w.heap.size, 4, none⟩ (.slice Ac M.cr.length kc)).setCell ⟨w.heap.size, 5, none⟩ (.slice Al M.lp.length kl)).setCell ⟨w.heap.size, 6, none⟩ (.slice Ad M.dr.length kd)).cell? ⟨w.heap.size, 6, none⟩ = some (.slice Ad M.dr.length kd) := ky 6
    have HS := Lib.hid hS
    have HB := Lib.hid hb
    have HN := Lib.hid (And.intro n0 (And.intro n1 (And.intro n2 (And.intro n3 (And.intro n4 (And.intro n5 n6))))))
    clear hS hb ky n0 n1 n2 n3 n4 n5 n6
    go_wp2_with fail
    obtain ⟨n0, n1, n2, n3, n4, n5, n6⟩ := HN.out
    refine bodyPost_ret (v := .tuple #[.agg #[.int .i64 a, .int .i64 0, .slice Af M.fr.length kf, .slice Ab M.bk.length kb, .slice Ac M.cr.length kc, .slice Al M.lp.length kl, .slice Ad M.dr.length kd], .int .i64 0]) (by simp [results, Try.results12, go_sem, n0, n1, n2, n3, n4, n5, n6]) rfl ?_
    subst hMM
    exact ⟨_, _, _, _, _, rfl, Hs.drop [] _ _ HS.out, HB.out⟩
set_option maxRecDepth 100000 in
set_option maxHeartbeats 3200000 in
theorem impl_NewMachine_any (a : Int) (w : World) :
    Calls Try.prog 13 #[.int .i64 a] w fun e w' => ∃ f b c l d, e = .returned (.tuple #[.agg #[.int .i64 (nmR a).wd, .int .i64 (nmR a).rk, f, b, c, l, d], .int .i64 (nmC a)]) ∧ Hs w' w.heap.size [mac_ f b c l d (nmR a)] ∧ Below w.heap.size w w' := by
  have hSb := hs_bx w #[.int .i64 0, .int .i64 0, .slice none 0 0, .slice none 0 0, .slice none 0 0, .slice none 0 0, .slice none 0 0] 27
  have hbb := al1 w (.cells #[.int .i64 0, .int .i64 0, .slice none 0 0, .slice none 0 0, .slice none 0 0, .slice none 0 0, .slice none 0 0] 27)
  have HSB := Lib.hid hSb
  have HBB := Lib.hid hbb
  clear hSb hbb
  cases hg : inR a 1 24
  · have e1 : nmR a = zeroM := by unfold nmR; rw [hg]; rfl
    have e2 : nmC a = 2 := by unfold nmC; rw [hg]; rfl
    rw [e1, e2]
    clear e1 e2
    go_enter Try.func13, Try.ntmps13
    go_wp2_with (go_at_call 46; refine (within_any _ _ _ _).mono ?_; rintro e w1 ⟨rfl, rfl⟩; rw [hg])
    obtain ⟨ky, -, -, -⟩ := Hs.bx [] [] HSB.out
    have n0 : (w.alloc (.cells #[.int .i64 0, .int .i64 0, .slice none 0 0, .slice none 0 0, .slice none 0 0, .slice none 0 0, .slice none 0 0] 27)).cell? ⟨w.heap.size, 0, none⟩ = some (.int .i64 0) := ky 0
    have n1 : (w.alloc (.cells #[.int .i64 0, .int .i64 0, .slice none 0 0, .slice none 0 0, .slice none 0 0, .slice none 0 0, .slice none 0 0] 27)).cell? ⟨w.heap.size, 1, none⟩ = some (.int .i64 0) := ky 1
    have n2 : (w.alloc (.cells #[.int .i64 0, .int .i64 0, .slice none 0 0, .slice none 0 0, .slice none 0 0, .slice none 0 0, .slice none 0 0] 27)).cell? ⟨w.heap.size, 2, none⟩ = some (.slice none 0 0) := ky 2
    have n3 : (w.alloc (.cells #[.int .i64 0, .int .i64 0, .slice none 0 0, .slice none 0 0, .slice none 0 0, .slice none 0 0, .slice none 0 0] 27)).cell? ⟨w.heap.size, 3, none⟩ = some (.slice none 0 0) := ky 3
    have n4 : (w.alloc (.cells #[.int .i64 0, .int .i64 0, .slice none 0 0, .slice none 0 0, .slice none 0 0, .slice none 0 0, .slice none 0 0] 27)).cell? ⟨w.heap.size, 4, none⟩ = some (.slice none 0 0) := ky 4
    have n5 : (w.alloc (.cells #[.int .i64 0, .int .i64 0, .slice none 0 0, .slice none 0 0, .slice none 0 0, .slice none 0 0, .slice none 0 0] 27)).cell? ⟨w.heap.size, 5, none⟩ = some (.slice none 0 0) := ky 5
    have n6 : (w.alloc (.cells #[.int .i64 0, .int .i64 0, .slice none 0 0, .slice none 0 0, .slice none 0 0, .slice none 0 0, .slice none 0 0] 27)).cell? ⟨w.heap.size, 6, none⟩ = some (.slice none 0 0) := ky 6
    refine bodyPost_ret (v := .tuple #[.agg #[.int .i64 0, .int .i64 0, .slice none 0 0, .slice none 0 0, .slice none 0 0, .slice none 0 0, .slice none 0 0], .int .i64 2]) (by simp [results, Try.results13, go_sem]) rfl ?_
    exact ⟨_, _, _, _, _, rfl, (hs_zeroM _).mono HBB.out.size, HBB.out⟩
  · have e1 : nmR a = newM a := by unfold nmR; rw [hg]; rfl
    have e2 : nmC a = 0 := by unfold nmC; rw [hg]; rfl
    rw [e1, e2]
    clear e1 e2
    have hr := inR_iff.1 hg
    obtain ⟨hr0, hr1⟩ := hr
    go_enter Try.func13, Try.ntmps13
    go_wp2_with (go_at_call 46; refine (within_any _ _ _ _).mono ?_; rintro e w1 ⟨rfl, rfl⟩; rw [hg])
    refine (newMachine_any a _ hr0 hr1).mono ?_
    rintro e w1 ⟨f, b, c, l, d, rfl, ho, hq⟩
    have hS := HSB.out.join hq ho
    have hb := HBB.out.trans (hq.mono HBB.out.size)
    clear HSB HBB ho hq
    obtain ⟨Af, kf, rfl, -⟩ := id (Hs.rdM [_] [] hS).fr
    obtain ⟨Ab, kb, rfl, -⟩ := id (Hs.rdM [_] [] hS).bk
    obtain ⟨Ac, kc, rfl, -⟩ := id (Hs.rdM [_] [] hS).cr.cells
    obtain ⟨Al, kl, rfl, -⟩ := id (Hs.rdM [_] [] hS).lp.cells
    obtain ⟨Ad, kd, rfl, -⟩ := id (Hs.rdM [_] [] hS).dr
    generalize hMM : newM a = M at *
    obtain ⟨ky, fy, -, -⟩ := Hs.bx [] [mac_ (.slice Af M.fr.length kf) (.slice Ab M.bk.length kb) (.slice Ac M.cr.length kc) (.slice Al M.lp.length kl) (.slice Ad M.dr.length kd) M] hS
    have v0 : w1.cell? ⟨w.heap.size, 0, none⟩ = some (.int .i64 0) := ky 0
    have t0 : w1.frozen? ⟨w.heap.size, 0, none⟩ = false := fy 0
    have v1 : w1.cell? ⟨w.heap.size, 1, none⟩ = some (.int .i64 0) := ky 1
    have t1 : w1.frozen? ⟨w.heap.size, 1, none⟩ = false := fy 1
    have v2 : w1.cell? ⟨w.heap.size, 2, none⟩ = some (.slice none 0 0) := ky 2
    have t2 : w1.frozen? ⟨w.heap.size, 2, none⟩ = false := fy 2
    have v3 : w1.cell? ⟨w.heap.size, 3, none⟩ = some (.slice none 0 0) := ky 3
    have t3 : w1.frozen? ⟨w.heap.size, 3, none⟩ = false := fy 3
    have v4 : w1.cell? ⟨w.heap.size, 4, none⟩ = some (.slice none 0 0) := ky 4
    have t4 : w1.frozen? ⟨w.heap.size, 4, none⟩ = false := fy 4
    have v5 : w1.cell? ⟨w.heap.size, 5, none⟩ = some (.slice none 0 0) := ky 5
    have t5 : w1.frozen? ⟨w.heap.size, 5, none⟩ = false := fy 5
    have v6 : w1.cell? ⟨w.heap.size, 6, none⟩ = some (.slice none 0 0) := ky 6
    have t6 : w1.frozen? ⟨w.heap.size, 6, none⟩ = false := fy 6
    clear ky fy
    have hS : Hs (w1.setCell ⟨w.heap.size, 0, none⟩ (.int .i64 a)) w.heap.size [bx_ (w.heap.size) #[.int .i64 a, .int .i64 0, .slice none 0 0, .slice none 0 0, .slice none 0 0, .slice none 0 0, .slice none 0 0] 27, mac_ (.slice Af M.fr.length kf) (.slice Ab M.bk.length kb) (.slice Ac M.cr.length kc) (.slice Al M.lp.length kl) (.slice Ad M.dr.length kd) M] := Hs.setBx [] [mac_ (.slice Af M.fr.length kf) (.slice Ab M.bk.length kb) (.slice Ac M.cr.length kc) (.slice Al M.lp.length kl) (.slice Ad M.dr.length kd) M] hS 0 (.int .i64 a)
    have hb : Below w.heap.size w (w1.setCell ⟨w.heap.size, 0, none⟩ (.int .i64 a)) := setB (by exact Nat.le_refl _) hb
    have hS : Hs ((w1.setCell ⟨w.heap.size, 0, none⟩ (.int .i64 a)).setCell ⟨w.heap.size, 1, none⟩ (.int .i64 0)) w.heap.size [bx_ (w.heap.size) #[.int .i64 a, .int .i64 0, .slice none 0 0, .slice none 0 0, .slice none 0 0, .slice none 0 0, .slice none 0 0] 27, mac_ (.slice Af M.fr.length kf) (.slice Ab M.bk.length kb) (.slice Ac M.cr.length kc) (.slice Al M.lp.length kl) (.slice Ad M.dr.length kd) M] := Hs.setBx [] [mac_ (.slice Af M.fr.length kf) (.slice Ab M.bk.length kb) (.slice Ac M.cr.length kc) (.slice Al M.lp.length kl) (.slice Ad M.dr.length kd) M] hS 1 (.int .i64 0)
    have hb : Below w.heap.size w ((w1.setCell ⟨w.heap.size, 0, none⟩ (.int .i64 a)).setCell ⟨w.heap.size, 1, none⟩ (.int .i64 0)) := setB (by exact Nat.le_refl _) hb
    have hS : Hs (((w1.setCell ⟨w.heap.size, 0, none⟩ (.int .i64 a)).setCell ⟨w.heap.size, 1, none⟩ (.int .i64 0)).setCell ⟨w.heap.size, 2, none⟩ (.slice Af M.fr.length kf)) w.heap.size [bx_ (w.heap.size) #[.int .i64 a, .int .i64 0, .slice Af M.fr.length kf, .slice none 0 0, .slice none 0 0, .slice none 0 0, .slice none 0 0] 27, mac_ (.slice Af M.fr.length kf) (.slice Ab M.bk.length kb) (.slice Ac M.cr.length kc) (.slice Al M.lp.length kl) (.slice Ad M.dr.length kd) M] := Hs.setBx [] [mac_ (.slice Af M.fr.length kf) (.slice Ab M.bk.length kb) (.slice Ac M.cr.length kc) (.slice Al M.lp.length kl) (.slice Ad M.dr.length kd) M] hS 2 (.slice Af M.fr.length kf)
    have hb : Below w.heap.size w (((w1.setCell ⟨w.heap.size, 0, none⟩ (.int .i64 a)).setCell ⟨w.heap.size, 1, none⟩ (.int .i64 0)).setCell ⟨w.heap.size, 2, none⟩ (.slice Af M.fr.length kf)) := setB (by exact Nat.le_refl _) hb
    have hS : Hs ((((w1.setCell ⟨w.heap.size, 0, none⟩ (.int .i64 a)).setCell ⟨w.heap.size, 1, none⟩ (.int .i64 0)).setCell ⟨w.heap.size, 2, none⟩ (.slice Af M.fr.length kf)).setCell ⟨w.heap.size, 3, none⟩ (.slice Ab M.bk.length kb)) w.heap.size [bx_ (w.heap.size) #[.int .i64 a, .int .i64 0, .slice Af M.fr.length kf, .slice Ab M.bk.length kb, .slice none 0 0, .slice none 0 0, .slice none 0 0] 27, mac_ (.slice Af M.fr.length kf) (.slice Ab M.bk.length kb) (.slice Ac M.cr.length kc) (.slice Al M.lp.length kl) (.slice Ad M.dr.length kd) M] := Hs.setBx [] [mac_ (.slice Af M.fr.length kf) (.slice Ab M.bk.length kb) (.slice Ac M.cr.length kc) (.slice Al M.lp.length kl) (.slice Ad M.dr.length kd) M] hS 3 (.slice Ab M.bk.length kb)
    have hb : Below w.heap.size w ((((w1.setCell ⟨w.heap.size, 0, none⟩ (.int .i64 a)).setCell ⟨w.heap.size, 1, none⟩ (.int .i64 0)).setCell ⟨w.heap.size, 2, none⟩ (.slice Af M.fr.length kf)).setCell ⟨w.heap.size, 3, none⟩ (.slice Ab M.bk.length kb)) := setB (by exact Nat.le_refl _) hb
    have hS : Hs (((((w1.setCell ⟨w.heap.size, 0, none⟩ (.int .i64 a)).setCell ⟨w.heap.size, 1, none⟩ (.int .i64 0)).setCell ⟨w.heap.size, 2, none⟩ (.slice Af M.fr.length kf)).setCell ⟨w.heap.size, 3, none⟩ (.slice Ab M.bk.length kb)).setCell ⟨w.heap.size, 4, none⟩ (.slice Ac M.cr.length kc)) w.heap.size [bx_ (w.heap.size) #[.int .i64 a, .int .i64 0, .slice Af M.fr.length kf, .slice Ab M.bk.length kb, .slice Ac M.cr.length kc, .slice none 0 0, .slice none 0 0] 27, mac_ (.slice Af M.fr.length kf) (.slice Ab M.bk.length kb) (.slice Ac M.cr.length kc) (.slice Al M.lp.length kl) (.slice Ad M.dr.length kd) M] := Hs.setBx [] [mac_ (.slice Af M.fr.length kf) (.slice Ab M.bk.length kb) (.slice Ac M.cr.length kc) (.slice Al M.lp.length kl) (.slice Ad M.dr.length kd) M] hS 4 (.slice Ac M.cr.length kc)
    have hb : Below w.heap.size w (((((w1.setCell ⟨w.heap.size, 0, none⟩ (.int .i64 a)).setCell ⟨w.heap.size, 1, none⟩ (.int .i64 0)).setCell ⟨w.heap.size, 2, none⟩ (.slice Af M.fr.length kf)).setCell ⟨w.heap.size, 3, none⟩ (.slice Ab M.bk.length kb)).setCell ⟨w.heap.size, 4, none⟩ (.slice Ac M.cr.length kc)) := setB (by exact Nat.le_refl _) hb
    have hS : Hs ((((((w1.setCell ⟨w.heap.size, 0, none⟩ (.int .i64 a)).setCell ⟨w.heap.size, 1, none⟩ (.int .i64 0)).setCell ⟨w.heap.size, 2, none⟩ (.slice Af M.fr.length kf)).setCell ⟨w.heap.size, 3, none⟩ (.slice Ab M.bk.length kb)).setCell ⟨w.heap.size, 4, none⟩ (.slice Ac M.cr.length kc)).setCell ⟨w.heap.size, 5, none⟩ (.slice Al M.lp.length kl)) w.heap.size [bx_ (w.heap.size) #[.int .i64 a, .int .i64 0, .slice Af M.fr.length kf, .slice Ab M.bk.length kb, .slice Ac M.cr.length kc, .slice Al M.lp.length kl, .slice none 0 0] 27, mac_ (.slice Af M.fr.length kf) (.slice Ab M.bk.length kb) (.slice Ac M.cr.length kc) (.slice Al M.lp.length kl) (.slice Ad M.dr.length kd) M] := Hs.setBx [] [mac_ (.slice Af M.fr.length kf) (.slice Ab M.bk.length kb) (.slice Ac M.cr.length kc) (.slice Al M.lp.length kl) (.slice Ad M.dr.length kd) M] hS 5 (.slice Al M.lp.length kl)
    have hb : Below w.heap.size w ((((((w1.setCell ⟨w.heap.size, 0, none⟩ (.int .i64 a)).setCell ⟨w.heap.size, 1, none⟩ (.int .i64 0)).setCell ⟨w.heap.size, 2, none⟩ (.slice Af M.fr.length kf)).setCell ⟨w.heap.size, 3, none⟩ (.slice Ab M.bk.length kb)).setCell ⟨w.heap.size, 4, none⟩ (.slice Ac M.cr.length kc)).setCell ⟨w.heap.size, 5, none⟩ (.slice Al M.lp.length kl)) := setB (by exact Nat.le_refl _) hb
    have hS : Hs (((((((w1.setCell ⟨w.heap.size, 0, none⟩ (.int .i64 a)).setCell ⟨w.heap.size, 1, none⟩ (.int .i64 0)).setCell ⟨w.heap.size, 2, none⟩ (.slice Af M.fr.length kf)).setCell ⟨w.heap.size, 3, none⟩ (.slice Ab M.bk.length kb)).setCell ⟨w.heap.size, 4, none⟩ (.slice Ac M.cr.length kc)).setCell ⟨w.heap.size, 5, none⟩ (.slice Al M.lp.length kl)).setCell ⟨w.heap.size, 6, none⟩ (.slice Ad M.dr.length kd)) w.heap.size [bx_ (w.heap.size) #[.int .i64 a, .int .i64 0, .slice Af M.fr.length kf, .slice Ab M.bk.length kb, .slice Ac M.cr.length kc, .slice Al M.lp.length kl, .slice Ad M.dr.length kd] 27, mac_ (.slice Af M.fr.length kf) (.slice Ab M.bk.length kb) (.slice Ac M.cr.length kc) (.slice Al M.lp.length kl) (.slice Ad M.dr.length kd) M] := Hs.setBx [] [mac_ (.slice Af M.fr.length kf) (.slice Ab M.bk.length kb) (.slice Ac M.cr.length kc) (.slice Al M.lp.length kl) (.slice Ad M.dr.length kd) M] hS 6 (.slice Ad M.dr.length kd)
    have hb : Below w.heap.size w (((((((w1.setCell ⟨w.heap.size, 0, none⟩ (.int .i64 a)).setCell ⟨w.heap.size, 1, none⟩ (.int .i64 0)).setCell ⟨w.heap.size, 2, none⟩ (.slice Af M.fr.length kf)).setCell ⟨w.heap.size, 3, none⟩ (.slice Ab M.bk.length kb)).setCell ⟨w.heap.size, 4, none⟩ (.slice Ac M.cr.length kc)).setCell ⟨w.heap.size, 5, none⟩ (.slice Al M.lp.length kl)).setCell ⟨w.heap.size, 6, none⟩ (.slice Ad M.dr.length kd)) := setB (by exact Nat.le_refl _) hb
    obtain ⟨ky, -, -, -⟩ := Hs.bx [] [mac_ (.slice Af M.fr.length kf) (.slice Ab M.bk.length kb) (.slice Ac M.cr.length kc) (.slice Al M.lp.length kl) (.slice Ad M.dr.length kd) M] hS
    have n0 : (((((((w1.setCell ⟨w.heap.size, 0, none⟩ (.int .i64 a)).setCell ⟨w.heap.size, 1, none⟩ (.int .i64 0)).setCell ⟨w.heap.size, 2, none⟩ (.slice Af M.fr.length kf)).setCell ⟨w.heap.size, 3, none⟩ (.slice Ab M.bk.length kb)).setCell ⟨w.heap.size, 4, none⟩ (.slice Ac M.cr.length kc)).setCell ⟨w.heap.size, 5, none⟩ (.slice Al M.lp.length kl)).setCell ⟨w.heap.size, 6, none⟩ (.slice Ad M.dr.length kd)).cell? ⟨w.heap.size, 0, none⟩ = some (.int .i64 a) := ky 0
    have n1 : (((((((w1.setCell ⟨w.heap.size, 0, none⟩ (.int .i64 a)).setCell ⟨w.heap.size, 1, none⟩ (.int .i64 0)).setCell ⟨w.heap.size, 2, none⟩ (.slice Af M.fr.length kf)).setCell ⟨w.heap.size, 3, none⟩ (.slice Ab M.bk.length kb)).setCell ⟨w.heap.size, 4, none⟩ (.slice Ac M.cr.length kc)).setCell ⟨w.heap.size, 5, none⟩ (.slice Al M.lp.length kl)).setCell ⟨w.heap.size, 6, none⟩ (.slice Ad M.dr.length kd)).cell? ⟨w.heap.size, 1, none⟩ = some (.int .i64 0) := ky 1
    have n2 : (((((((w1.setCell ⟨w.heap.size, 0, none⟩ (.int .i64 a)).setCell ⟨w.heap.size, 1, none⟩ (.int .i64 0)).setCell ⟨w.heap.size, 2, none⟩ (.slice Af M.fr.length kf)).setCell ⟨w.heap.size, 3, none⟩ (.slice Ab M.bk.length kb)).setCell ⟨w.heap.size, 4, none⟩ (.slice Ac M.cr.length kc)).setCell ⟨w.heap.size, 5, none⟩ (.slice Al M.lp.length kl)).setCell ⟨w.heap.size, 6, none⟩ (.slice Ad M.dr.length kd)).cell? ⟨w.heap.size, 2, none⟩ = some (.slice Af M.fr.length kf) := ky 2
    have n3 : (((((((w1.setCell ⟨w.heap.size, 0, none⟩ (.int .i64 a)).setCell ⟨w.heap.size, 1, none⟩ (.int .i64 0)).setCell ⟨w.heap.size, 2, none⟩ (.slice Af M.fr.length kf)).setCell ⟨w.heap.size, 3, none⟩ (.slice Ab M.bk.length kb)).setCell ⟨w.heap.size, 4, none⟩ (.slice Ac M.cr.length kc)).setCell ⟨w.heap.size, 5, none⟩ (.slice Al M.lp.length kl)).setCell ⟨w.heap.size, 6, none⟩ (.slice Ad M.dr.length kd)).cell? ⟨w.heap.size, 3, none⟩ = some (.slice Ab M.bk.length kb) := ky 3
    have n4 : (((((((w1.setCell ⟨w.heap.size, 0, none⟩ (.int .i64 a)).setCell ⟨w.heap.size, 1, none⟩ (.int .i64 0)).setCell ⟨w.heap.size, 2, none⟩ (.slice Af M.fr.length kf)).setCell ⟨w.heap.size, 3, none⟩ (.slice Ab M.bk.length kb)).setCell ⟨w.heap.size, 4, none⟩ (.slice Ac M.cr.length kc)).setCell ⟨w.heap.size, 5, none⟩ (.slice Al M.lp.length kl)).setCell ⟨w.heap.size, 6, none⟩ (.slice Ad M.dr.length kd)).cell? ⟨w.heap.size, 4, none⟩ = some (.slice Ac M.cr.length kc) := ky 4
    have n5 : (((((((w1.setCell ⟨w.heap.size, 0, none⟩ (.int .i64 a)).setCell ⟨w.heap.size, 1, none⟩ (.int .i64 0)).setCell ⟨w.heap.size, 2, none⟩ (.slice Af M.fr.length kf)).setCell ⟨w.heap.size, 3, none⟩ (.slice Ab M.bk.length kb)).setCell ⟨w.heap.size, 4, none⟩ (.slice Ac M.cr.length kc)).setCell ⟨w.heap.size, 5, none⟩ (.slice Al M.lp.length kl)).setCell ⟨w.heap.size, 6, none⟩ (.slice Ad M.dr.length kd)).cell? ⟨w.heap.size, 5, none⟩ = some (.slice Al M.lp.length kl) := ky 5
    have n6 : (((((((w1.setCell ⟨w.heap.size, 0, none⟩ (.int .i64 a)).setCell ⟨w.heap.size, 1, none⟩ (.int .i64 0)).setCell ⟨w.heap.size, 2, none⟩ (.slice Af M.fr.length kf)).setCell ⟨w.heap.size, 3, none⟩ (.slice Ab M.bk.length kb)).setCell ⟨w.heap.size, 4, none⟩ (.slice Ac M.cr.length kc)).setCell ⟨w.heap.size, 5, none⟩ (.slice Al M.lp.length kl)).setCell ⟨w.heap.size, 6, none⟩ (.slice Ad M.dr.length kd)).cell? ⟨w.heap.size, 6, none⟩ = some (.slice Ad M.dr.length kd) := ky 6
    have HS := Lib.hid hS
    have HB := Lib.hid hb
    have HN := Lib.hid (And.intro n0 (And.intro n1 (And.intro n2 (And.intro n3 (And.intro n4 (And.intro n5 n6))))))
    clear hS hb ky n0 n1 n2 n3 n4 n5 n6
    go_wp2_with fail
    obtain ⟨n0, n1, n2, n3, n4, n5, n6⟩ := HN.out
    refine bodyPost_ret (v := .tuple #[.agg #[.int .i64 a, .int .i64 0, .slice Af M.fr.length kf, .slice Ab M.bk.length kb, .slice Ac M.cr.length kc, .slice Al M.lp.length kl, .slice Ad M.dr.length kd], .int .i64 0]) (by simp [results, Try.results13, go_sem, n0, n1, n2, n3, n4, n5, n6]) rfl ?_
    subst hMM
    exact ⟨_, _, _, _, _, rfl, Hs.drop [] _ _ HS.out, HB.out⟩
end Go.Proofs.Ytbefioljddhhpaa
