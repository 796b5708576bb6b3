/-
  Contract: the program's execute (on a machine in a box). Printed by gen_exe.py.
-/
import Derived.Test.YtgmppfhokfifgaaCfi
import Derived.Test.YtgmppfhokfifgaaVmb
import Derived.Test.YtgmppfhokfifgaaFre
import Derived.Test.YtgmppfhokfifgaaSlib
import Derived.Test.YtgmppfhokfifgaaGmb
import Derived.Test.YtgmppfhokfifgaaMsi
import Derived.Shelf.Small.Bits
import Derived.Shelf.Strconv.Itoa0
import Derived.Ground.SlgnProg
import Derived.Shelf.SlicesE.Compact
import Derived.Ground.SlgmProg
import Derived.Shelf.SortM.Plain
import Derived.Test.YtgmppfhokfifgaaProg
import Derived.Test.YtgmppfhokfifgaaSt
import Derived.Sort.OwnSortedInts
namespace Go.Proofs.Ytgmppfhokfifgaa
set_option maxRecDepth 10000
open Go.RowKit

def Tn (S : Nat → Prop) (b : Nat) (w' : World) : Nat → Prop := fun j => S j ∨ (b ≤ j ∧ j < w'.heap.size)
def opObj (o : List Int) : Obj := .cells #[.int .i64 (gi o 0), .int .i64 (gi o 1), .int .i64 (gi o 2), .int .i64 (gi o 3), .int .i64 (gi o 4), .int .i64 (gi o 5), .int .i64 (gi o 6), .int .i64 (gi o 7)] 54
/-- A state of the walk of execute: the machine in its box, and the operation in its own. -/
structure Exs (w : World) (S : Nat → Prop) (g : Nat) (o : List Int) (wK : World) (mK : Mac) : Prop where
  bx : OwBox wK (Tn S (w.heap.size + 1) wK) g mK
  ch : ChgS S w wK
  op : wK.heap[w.heap.size]? = some (opObj o)
  sz : w.heap.size + 1 ≤ wK.heap.size
  lt : ∀ j, S j → j < w.heap.size
theorem Exs.tlt {w : World} {S : Nat → Prop} {g : Nat} {o : List Int} {wK : World} {mK : Mac} (h : Exs w S g o wK mK) : ∀ j, Tn S (w.heap.size + 1) wK j → j < wK.heap.size := fun j q => by
  rcases q with q | q
  · have := h.lt j q; have := h.sz; omega
  · exact q.2
theorem Exs.not {w : World} {S : Nat → Prop} {g : Nat} {o : List Int} {wK : World} {mK : Mac} (h : Exs w S g o wK mK) : ¬ Tn S (w.heap.size + 1) wK w.heap.size := fun q => by
  rcases q with q | q
  · have := h.lt _ q; omega
  · omega
theorem Exs.step {w : World} {S : Nat → Prop} {g : Nat} {o : List Int} {wK wL : World} {mK mL : Mac} (h : Exs w S g o wK mK) (hb : OwBox wL (Now (Tn S (w.heap.size + 1) wK) wK wL) g mL) (hc : ChgS (Tn S (w.heap.size + 1) wK) wK wL) : Exs w S g o wL mL := by
  have hz := hc.size
  have hs := h.sz
  refine ⟨hb.mono fun j q => ?_, h.ch.then hc fun j hj q => ?_, (hc.block _ (by omega) h.not).trans h.op, by omega, h.lt⟩
  · rcases q with (q | q) | q
    · exact .inl q
    · exact .inr ⟨q.1, by omega⟩
    · exact .inr ⟨by omega, q.2⟩
  · rcases q with q | q
    · exact q
    · omega
theorem Exs.below {w : World} {S : Nat → Prop} {g : Nat} {o : List Int} {wK wL : World} {mK : Mac} (h : Exs w S g o wK mK) (hb : Below wK.heap.size wK wL) : Exs w S g o wL mK :=
  h.step ((h.bx.below h.tlt hb).mono fun _ q => .inl q) (ChgS.of_below hb)
theorem Exs.cells {w : World} {S : Nat → Prop} {g : Nat} {o : List Int} {wK : World} {mK : Mac} (h : Exs w S g o wK mK) : wK.cell? ⟨w.heap.size, 0, none⟩ = some (.int .i64 (gi o 0)) ∧ wK.cell? ⟨w.heap.size, 1, none⟩ = some (.int .i64 (gi o 1)) ∧ wK.cell? ⟨w.heap.size, 2, none⟩ = some (.int .i64 (gi o 2)) ∧ wK.cell? ⟨w.heap.size, 3, none⟩ = some (.int .i64 (gi o 3)) ∧ wK.cell? ⟨w.heap.size, 4, none⟩ = some (.int .i64 (gi o 4)) ∧ wK.cell? ⟨w.heap.size, 5, none⟩ = some (.int .i64 (gi o 5)) ∧ wK.cell? ⟨w.heap.size, 6, none⟩ = some (.int .i64 (gi o 6)) ∧ wK.cell? ⟨w.heap.size, 7, none⟩ = some (.int .i64 (gi o 7)) := (box8 h.op).1
theorem Sl.vals {w : World} {B : Nat} {A : Option Addr} {n cap : Nat} {ys : List Int} (h : Sl w B (.slice A n cap) ys) : n = ys.length ∧ (A = none → n = 0 ∧ cap = 0) ∧ ∀ ad, A = some ad → ∀ j u, (Go.Proofs.Ytgmppfhokfifgaa.vals ys)[j]? = some u → w.cell? (ad.add j) = some u := by
  obtain ⟨A', c', e, hl, hm, hn, h5⟩ := h
  injection e with e1 e2 e3
  subst e1 e2 e3
  refine ⟨rfl, fun q => ⟨by have := hn q; omega, hn q⟩, fun ad had j u hu => ?_⟩
  have hj : j < (Go.Proofs.Ytgmppfhokfifgaa.vals ys).length := (List.getElem?_eq_some_iff.1 hu).1
  rw [vals_len] at hj
  obtain ⟨b, off, e, -, hc⟩ := h5 (by omega)
  rw [had] at e
  injection e with e
  subst e
  rw [vals_get hj] at hu
  injection hu with hu
  subst hu
  rw [Addr.add_lit]
  exact hc j hj
end Go.Proofs.Ytgmppfhokfifgaa
