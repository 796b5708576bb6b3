/-
  Contracts: the ends of a handle, the first handle (the reference's functions); FirstHandle of both.
-/
import Derived.Test.YtcoocjdkppdlmaaHnd2
namespace Go.Proofs.Ytcoocjdkppdlmaa
set_option maxRecDepth 10000
open Go.RowKit Go.Sort

theorem isH_spec {xs : List Int} {f t : Int} (hb : Lt xs) : (inR f 0 (xs.length - 1) && (inR t (f + 1) (xs.length - 1) && endsH xs f.toNat t.toNat)) = isH xs f t := by
  cases h1 : inR f 0 (xs.length - 1)
  · have h1' := inR_out h1
    rw [Bool.false_and, isH]
    symm
    rw [← Bool.not_eq_true]
    intro h
    simp only [Bool.and_eq_true, decide_eq_true_eq] at h
    obtain ⟨⟨h2, h3⟩, h4⟩ := h
    have h2' := inR_iff.1 h2
    have := hTo_bd xs t.toNat
    omega
  · have h1' := inR_iff.1 h1
    cases h2 : inR t (f + 1) (xs.length - 1)
    · have h2' := inR_out h2
      simp only [Bool.true_and, Bool.false_and]
      symm
      rw [← Bool.not_eq_true, isH]
      intro h
      simp only [Bool.and_eq_true, decide_eq_true_eq] at h
      obtain ⟨⟨h3, h4⟩, h5⟩ := h
      have h3' := inR_iff.1 h3
      have := hTo_bd xs t.toNat
      omega
    · have h2' := inR_iff.1 h2
      simp only [Bool.true_and]
      have ht : t.toNat < xs.length := by omega
      rw [ends_to (hb _ (gi_mem ht)).1 (by omega), isH, inR_yes (by omega) (by omega), decide_eq_true h1'.1]
      simp only [Bool.true_and]
      rw [Int.toNat_of_nonneg h1'.1]
theorem braid_cells (w : World) (s : Int) (v : Value) (o : Obj) : ((w.alloc (.cells #[.int .i64 s, v] 41)).alloc o).cell? ⟨w.heap.size, 0, none⟩ = some (.int .i64 s) ∧ ((w.alloc (.cells #[.int .i64 s, v] 41)).alloc o).cell? ⟨w.heap.size, 1, none⟩ = some v :=
  ⟨by simp [World.cell?_alloc_lt], by simp [World.cell?_alloc_lt]⟩
end Go.Proofs.Ytcoocjdkppdlmaa
