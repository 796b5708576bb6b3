/-
  Contract: the program's run. Printed by gen_run.py.
-/
import Derived.Test.YtgmppfhokfifgaaExe
import Derived.Test.YtgmppfhokfifgaaRnp
import Derived.Test.YtgmppfhokfifgaaMsj
import Derived.Test.YtgmppfhokfifgaaMn
import Derived.Deep.RegionHeld3
import Derived.Deep.DeepCutAuto
import Derived.Test.YtgmppfhokfifgaaPo3
namespace Go.Proofs.Ytgmppfhokfifgaa
set_option maxRecDepth 10000
open Go.RowKit

theorem SlR.opAt {w : World} {B : Nat} {pb po n c : Nat} {os : List (List Int)} (h : SlR 8 w B (.slice (some ⟨pb, po, none⟩) n c) os) {k : Nat} (hk : k < os.length) :
    n = os.length ∧ pb < w.heap.size ∧ w.cell? ⟨pb, po + k * 8, none⟩ = some (.int .i64 (gi (gl os k) 0)) ∧ w.cell? ⟨pb, po + k * 8 + 1, none⟩ = some (.int .i64 (gi (gl os k) 1)) ∧ w.cell? ⟨pb, po + k * 8 + 2, none⟩ = some (.int .i64 (gi (gl os k) 2)) ∧ w.cell? ⟨pb, po + k * 8 + 3, none⟩ = some (.int .i64 (gi (gl os k) 3)) ∧ w.cell? ⟨pb, po + k * 8 + 4, none⟩ = some (.int .i64 (gi (gl os k) 4)) ∧ w.cell? ⟨pb, po + k * 8 + 5, none⟩ = some (.int .i64 (gi (gl os k) 5)) ∧ w.cell? ⟨pb, po + k * 8 + 6, none⟩ = some (.int .i64 (gi (gl os k) 6)) ∧ w.cell? ⟨pb, po + k * 8 + 7, none⟩ = some (.int .i64 (gi (gl os k) 7)) := by
  obtain ⟨A, c', e, -, -, -, hc⟩ := h
  simp only [Value.slice.injEq] at e
  obtain ⟨rfl, rfl, rfl⟩ := e
  obtain ⟨b, off, e2, -, hcell⟩ := hc (by omega)
  simp only [Option.some.injEq, Addr.mk.injEq, and_true] at e2
  obtain ⟨rfl, rfl⟩ := e2
  have h0 := hcell k hk 0 (by omega)
  exact ⟨rfl, block_lt_of_cell h0, h0, hcell k hk 1 (by omega), hcell k hk 2 (by omega), hcell k hk 3 (by omega), hcell k hk 4 (by omega), hcell k hk 5 (by omega), hcell k hk 6 (by omega), hcell k hk 7 (by omega)⟩
theorem SlR.addr {w : World} {B : Nat} {A : Option Addr} {n c : Nat} {os : List (List Int)} (h : SlR 8 w B (.slice A n c) os) (h0 : 0 < os.length) : ∃ pb po, A = some ⟨pb, po, none⟩ := by
  obtain ⟨A', c', e, -, -, -, hc⟩ := h
  simp only [Value.slice.injEq] at e
  obtain ⟨rfl, rfl, rfl⟩ := e
  obtain ⟨b, off, e2, -, -⟩ := hc h0
  exact ⟨b, off, e2⟩
/-- The forms of a machine's parts. -/
theorem SlM.forms {w : World} {B : Nat} {f b c l d : Value} {m : Mac} (h : SlM w B f b c l d m) : (∃ A k, f = .slice A m.fr.length k) ∧ (∃ A k, b = .slice A m.bk.length k) ∧ (∃ A k, c = .slice A m.cr.length k) ∧ (∃ A k, l = .slice A m.lp.length k) ∧ (∃ A k, d = .slice A m.dr.length k) := by
  obtain ⟨a1, k1, e1, -⟩ := h.fr
  obtain ⟨a2, k2, e2, -⟩ := h.bk
  obtain ⟨a3, k3, e3, -⟩ := h.cr
  obtain ⟨a4, k4, e4, -⟩ := h.lp
  obtain ⟨a5, k5, e5, -⟩ := h.dr
  exact ⟨⟨a1, k1, e1⟩, ⟨a2, k2, e2⟩, ⟨a3, k3, e3⟩, ⟨a4, k4, e4⟩, ⟨a5, k5, e5⟩⟩
end Go.Proofs.Ytgmppfhokfifgaa
