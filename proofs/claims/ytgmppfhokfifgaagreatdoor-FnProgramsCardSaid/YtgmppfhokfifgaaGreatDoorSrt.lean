/-
  Contract of slices.Sort on a row of int64 of the call's own; sorting is putting each number to its place (plain).
-/
import Derived.Test.YtgmppfhokfifgaaGreatDoorGsh
import Derived.Test.YtgmppfhokfifgaaGreatDoorSt
import Derived.Sort.OwnSortedInts
namespace Go.Proofs.YtgmppfhokfifgaaGreatDoor
set_option maxRecDepth 10000
open Go.RowKit Go.Sort

def srt (xs : List Int) : List Int := xs.mergeSort fun x y => decide (x ≤ y)
theorem srt_len (xs : List Int) : (srt xs).length = xs.length := by simp [srt]
theorem srt_perm (xs : List Int) : (srt xs).Perm xs := List.mergeSort_perm _ _
theorem srt_sorted (xs : List Int) : (srt xs).Pairwise (· ≤ ·) := by
  have := List.pairwise_mergeSort (le := fun x y : Int => decide (x ≤ y)) (by intro a b c h1 h2; simp only [decide_eq_true_eq] at *; omega) (by intro a b; simp only [Bool.or_eq_true, decide_eq_true_eq]; omega) xs
  simpa [srt] using this
/-- slices.Sort of a row of the call's own. -/
theorem sort_own {w : World} {S : Nat → Prop} {g n cap : Nat} {xs : List Int} (h : (rw_ (.slice (some ⟨g, 0, none⟩) n cap) xs).p w S) (hS : ∀ j, S j → j < w.heap.size) (hl : xs.length ≤ 1000000) :
    Calls Tryz.prog 94 #[.slice (some ⟨g, 0, none⟩) n cap] w fun e w' => e = .returned (.tuple #[]) ∧ (rw_ (.slice (some ⟨g, 0, none⟩) n cap) (srt xs)).p w' S ∧ ChgS S w w' := by
  obtain ⟨⟨h1, h2⟩, h3⟩ := h
  have hg := h3 g rfl
  rcases h2 with ⟨h2, -⟩ | ⟨g', cap', cur, e, hlo, hh, hn, hcap, hsz, htake⟩
  · cases h2
  · simp only [Value.slice.injEq, Option.some.injEq, Addr.mk.injEq] at e
    obtain ⟨⟨rfl, -, -⟩, rfl, rfl⟩ := e
    rw [Nat.mul_one] at htake
    have hH := holds_of_blockI hh (ss := xs) htake
    refine (Tryz.slices_Sort_int g 0 cap xs w hH (hS g hg) (by omega)).mono ?_
    rintro e w' ⟨rfl, k, os, rfl⟩
    have hb := grownBy_sortedI (w := w) (g := g) (n := k) (os := os) (srt xs).toArray
    refine ⟨rfl, ⟨?_, h3⟩, ⟨hb.os, hb.tape, hb.output, hb.size, fun j hj hn => hb.block j hj fun e => hn (by injection e with e; subst e; exact hg)⟩⟩
    have := ownsRow_sortedI (n := k) (os := os) (base := 0) (ts := srt xs) (ss := xs) (srt_len xs) (Nat.zero_le _) hh hn hcap hsz
    rw [srt_len]
    exact this
end Go.Proofs.YtgmppfhokfifgaaGreatDoor
