/-
  Contracts: the reference's RunMachine, CheckProgram. Printed by gen_rms.py.
-/
import Derived.Test.YtgmppfhokfifgaaRun
import Derived.Test.YtgmppfhokfifgaaMn
import Derived.Deep.RegionHeld3
import Derived.Deep.DeepCutAuto
import Derived.Test.YtgmppfhokfifgaaGmb
import Derived.Test.YtgmppfhokfifgaaMsj
namespace Go.Proofs.Ytgmppfhokfifgaa
set_option maxRecDepth 10000
open Go.RowKit

/-- A machine of the call's own, and a box that holds it. -/
theorem OwM.into {w : World} {S : Nat → Prop} {f b c l d : Value} {m : Mac} {r : Nat} (h : OwM w S f b c l d m) (hr : ¬ S r) (hx : w.heap[r]? = some (.cells #[.int .i64 m.wd, .int .i64 m.rk, f, b, c, l, d] 39)) : OwBox w (fun k => S k ∨ k = r) r m := by
  classical
  obtain ⟨tag, h2⟩ := h
  have hm : ∀ t k, S k ∧ tag k = t → (S k ∨ k = r) ∧ (if k = r then 5 else tag k) = t := fun t k q => ⟨.inl q.1, by rw [if_neg (fun e : k = r => hr (by rw [← e]; exact q.1))]; exact q.2⟩
  exact ⟨f, b, c, l, d, fun k => if k = r then 5 else tag k, .inr rfl, if_pos rfl, hx, h2.fr.mono (hm 0), h2.bk.mono (hm 1), h2.cr.mono (hm 2), h2.lp.mono (hm 3), rw_mono h2.dr (hm 4)⟩
theorem OpL.of {w : World} {pb po : Nat} {o : List Int} (h0 : w.cell? ⟨pb, po, none⟩ = some (.int .i64 (gi o 0))) (h1 : w.cell? ⟨pb, po + 1, none⟩ = some (.int .i64 (gi o 1))) (h2 : w.cell? ⟨pb, po + 2, none⟩ = some (.int .i64 (gi o 2))) (h3 : w.cell? ⟨pb, po + 3, none⟩ = some (.int .i64 (gi o 3))) (h4 : w.cell? ⟨pb, po + 4, none⟩ = some (.int .i64 (gi o 4))) (h5 : w.cell? ⟨pb, po + 5, none⟩ = some (.int .i64 (gi o 5))) (h6 : w.cell? ⟨pb, po + 6, none⟩ = some (.int .i64 (gi o 6))) (h7 : w.cell? ⟨pb, po + 7, none⟩ = some (.int .i64 (gi o 7))) : OpL w pb po o := ⟨h0, h1, h2, h3, h4, h5, h6, h7⟩
end Go.Proofs.Ytgmppfhokfifgaa
