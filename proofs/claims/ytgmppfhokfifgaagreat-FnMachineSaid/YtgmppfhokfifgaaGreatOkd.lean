/-
  Is a machine valid (okM), as a Bool that the walk does not take apart.
-/
import Derived.Test.YtgmppfhokfifgaaGreatVm3
namespace Go.Proofs.YtgmppfhokfifgaaGreat
set_option maxRecDepth 10000

def crOk (wd : Int) (c : Bool × Int) : Bool := inR c.2 (-3) (wd + 3) && (c.1 || c.2 == 0)
def crsB (m : Mac) : Bool := m.cr.all (crOk m.wd)
def infI (wd : Int) (L : List (List Int)) (i : Nat) : Bool := infB wd i (gi (gl L i) 0) (gi (gl L i) 1) (gi (gl L i) 2) (gi (gl L i) 3) (gi (gl L i) 4) ((gl L i).drop 5)
def infsB (wd : Int) (L : List (List Int)) : Bool := (List.range L.length).all (infI wd L)
def hdB (m : Mac) : Bool := inR m.wd 1 24 && inR m.rk (-3) 3 && decide ((m.fr.length : Int) = m.wd) && decide ((m.bk.length : Int) = m.wd) && decide (m.cr.length = 4) && decide (m.lp.length ≤ 300)
def allM (m : Mac) : List Int := m.fr.flatten ++ m.bk.flatten ++ m.dr
def okM (m : Mac) : Bool := hdB m && crsB m && infsB m.wd m.lp && shortB m.fr && shortB m.bk && risesB m.lp.length m.dr && parsB m.lp.length (allM m)
theorem crsB_no {m : Mac} {k : Nat} (hk : k < m.cr.length) (h : crOk m.wd (gc m.cr k) = false) : crsB m = false := by
  rw [← Bool.not_eq_true]; intro h2
  rw [crsB, List.all_eq_true] at h2
  have := h2 (gc m.cr k) (by rw [gc_eq hk]; exact List.getElem_mem hk)
  rw [h] at this; cases this
theorem crsB_yes {m : Mac} (h : ∀ j, j < m.cr.length → crOk m.wd (gc m.cr j) = true) : crsB m = true := by
  rw [crsB, List.all_eq_true]
  intro x hx
  obtain ⟨j, hj, rfl⟩ := List.getElem_of_mem hx
  rw [← gc_eq hj]; exact h j hj
theorem infsB_no {wd : Int} {L : List (List Int)} {k : Nat} (hk : k < L.length) (h : infI wd L k = false) : infsB wd L = false := by
  rw [← Bool.not_eq_true]; intro h2
  rw [infsB, List.all_eq_true] at h2
  have := h2 k (List.mem_range.2 hk)
  rw [h] at this; cases this
theorem infsB_yes {wd : Int} {L : List (List Int)} (h : ∀ j, j < L.length → infI wd L j = true) : infsB wd L = true := by
  rw [infsB, List.all_eq_true]; exact fun j hj => h j (List.mem_range.1 hj)
end Go.Proofs.YtgmppfhokfifgaaGreat
