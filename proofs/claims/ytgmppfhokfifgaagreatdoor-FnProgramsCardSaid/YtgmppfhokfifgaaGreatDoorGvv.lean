/-
  Contracts: tests of membership; slices.Grow and slices.Concat of [][]int64; the reference's l00Rises, l07Lists. Printed by gen_vm.py (the first part stands in XPl too).
-/
import Derived.Test.YtgmppfhokfifgaaGreatDoorGmm
import Derived.Lib.AppendZeros
import Derived.Deep.Slices
namespace Go.Proofs.YtgmppfhokfifgaaGreatDoor
set_option maxRecDepth 10000
open Go.RowKit

def hasI (xs : List Int) (k : Int) : Bool := xs.any fun x => x == k

/-- The slice value v reads as the cells us; its block lies below B. -/
def RdR (w : World) (B : Nat) (v : Value) (us : List Value) : Prop :=
  ∃ A c, v = .slice A us.length c ∧ us.length ≤ c ∧ c ≤ maxLen ∧ (A = none → c = 0) ∧ (0 < us.length → ∃ b off, A = some ⟨b, off, none⟩ ∧ b < B ∧ ∀ k u, us[k]? = some u → w.cell? ⟨b, off + k, none⟩ = some u)
theorem RdR.keep {w w' : World} {B : Nat} {v : Value} {us : List Value} (h : RdR w B v us) (hk : ∀ p : Addr, p.block < B → w'.cell? p = w.cell? p) : RdR w' B v us := by
  obtain ⟨A, c, h1, h2, h3, h4, h5⟩ := h
  refine ⟨A, c, h1, h2, h3, h4, fun hp => ?_⟩
  obtain ⟨b, off, e, hb, hc⟩ := h5 hp
  exact ⟨b, off, e, hb, fun k u hu => by rw [hk _ hb]; exact hc k u hu⟩
theorem RdR.below {w w' : World} {B B' : Nat} {v : Value} {us : List Value} (h : RdR w B v us) (hb : Below B' w w') (hB : B ≤ B') : RdR w' B v us := h.keep fun _ hp => hb.cell (by omega)
theorem Sl.one {w : World} {B : Nat} {u : Value} {xs : List Int} (h : Sl w B u xs) : u.oneCell' = true := by
  obtain ⟨A, c, rfl, -⟩ := h
  rfl
end Go.Proofs.YtgmppfhokfifgaaGreatDoor
/-
  Contracts: is a loop described rightly (the program's isInfo, the reference's l07Info). Printed by gen_vm2.py.
-/
namespace Go.Proofs.YtgmppfhokfifgaaGreatDoor
set_option maxRecDepth 10000
open Go.RowKit

def kindB (k : Int) : Bool := k == 1 || k == 2 || k == 5
def parB (n : Int) (ps : List Int) (i : Nat) : Bool := inR (gi ps i) 0 (n - 1) && !hasI (ps.take i) (gi ps i)
def parsB (n : Int) (ps : List Int) : Bool := (List.range ps.length).all (parB n ps)
def infB (wd n a0 a1 a2 a3 a4 : Int) (ps : List Int) : Bool :=
  kindB a0 && inR a1 1 4 && bedB a2 && inR a3 0 (wd - 1) && dirB a4 && decide (ps.length ≤ 4) && parsB n ps && (a0 != 2 || ps.length == 0) && (a0 != 5 || decide (0 < ps.length))
end Go.Proofs.YtgmppfhokfifgaaGreatDoor
