/-
  Contracts: NewMachine of both. Printed by gen_mn3.py.
-/
import Derived.Test.YtgmppfhokfifgaaMn
import Derived.Deep.RegionHeld3
import Derived.Deep.DeepCutAuto
import Derived.Test.YtgmppfhokfifgaaRun
namespace Go.Proofs.Ytgmppfhokfifgaa
set_option maxRecDepth 10000
open Go.RowKit

theorem hs_zeroM (w : World) : Hs w w.heap.size [mac_ (.slice none 0 0) (.slice none 0 0) (.slice none 0 0) (.slice none 0 0) (.slice none 0 0) zeroM] :=
  Hs.mac (m := zeroM) ((((hs_nilS.join (Below.refl _ _) hs_nilS).join (Below.refl _ _) (hs_owc (e := 103) (z := 2) (OwC.nil _ _ _ _) (Below.refl _ _))).join (Below.refl _ _) hs_nilF).join (Below.refl _ _) hs_nilI)
end Go.Proofs.Ytgmppfhokfifgaa
/-
  Contracts: the program's RunMachine, CheckProgram. Printed by gen_rmi.py.
-/
namespace Go.Proofs.Ytgmppfhokfifgaa
set_option maxRecDepth 10000
open Go.RowKit

def rmR (n : Int) (os : List (List Int)) : Mac × Int × Int := if okOps n os then runL (newM n) 0 os else (zeroM, 0, 1)
theorem rmR_yes {n : Int} {os : List (List Int)} (h : okOps n os = true) : rmR n os = runL (newM n) 0 os := if_pos h
theorem rmR_no {n : Int} {os : List (List Int)} (h : okOps n os = false) : rmR n os = (zeroM, 0, 1) := by unfold rmR; rw [h]; rfl
/-- A machine that a call has made lies beside a box of before that is laid anew. -/
theorem Hs.lay {w0 w : World} {f b c l d : Value} {m : Mac} {r lo : Nat} {z0 z1 z2 z3 z4 z5 z6 : Value} (hb : Below w0.heap.size w0 w) (h : Hs w lo [mac_ f b c l d m]) (hr : r < lo) (hx : w.heap[r]? = some (.cells #[z0, z1, z2, z3, z4, z5, z6] 39)) (hr0 : w0.heap.size ≤ r) :
    let W := (((((((w.setCell ⟨r, 0, none⟩ (.int .i64 m.wd)).setCell ⟨r, 1, none⟩ (.int .i64 m.rk)).setCell ⟨r, 2, none⟩ f).setCell ⟨r, 3, none⟩ b).setCell ⟨r, 4, none⟩ c).setCell ⟨r, 5, none⟩ l).setCell ⟨r, 6, none⟩ d)
    W.heap[r]? = some (.cells #[.int .i64 m.wd, .int .i64 m.rk, f, b, c, l, d] 39) ∧ Hs W w0.heap.size [mac_ f b c l d m] ∧ Below w0.heap.size w0 W := by
  intro W
  obtain ⟨S, hm, hS, -⟩ := h.at_ [] _ []
  obtain ⟨e1, e2, e3, e4⟩ := box7_set (.int .i64 m.wd) (.int .i64 m.rk) f b c l d hx
  have hb2 : Below w0.heap.size w0 W := hb.trans (e4 _ hr0)
  have hm : OwM w S f b c l d m := hm
  refine ⟨e1, OwM.hs hb2 ((hm.keep fun k q => e2 k (by have := (hS k q).1; omega)).mono fun k q => ?_), hb2⟩
  have := hS k q
  exact ⟨by omega, by show k < W.heap.size; rw [e3]; exact this.2⟩
end Go.Proofs.Ytgmppfhokfifgaa
