/-
  Contracts: FreeCore, of the program and of the reference.
-/
import Derived.Test.YtcinnbkhnonijaaJnv
import Derived.Deep.RegionHeld3
namespace Go.Proofs.Ytcinnbkhnonijaa
set_option maxRecDepth 10000
open Go.RowKit

theorem coreN_eq {xs : List Int} {k : Nat} (hk : k ≤ xs.length) (h1 : ∀ j, j < k → coreP xs j = true) (h2 : coreP xs k = false) : coreN xs = k := stop_eq hk h1 fun _ => h2
theorem coreP_len {xs : List Int} {k : Nat} (h : coreP xs k = true) : 2 * k + 1 < xs.length := by simp [coreP] at h; exact h.1
theorem coreN_two {xs : List Int} {k : Nat} (h1 : ∀ j, j < k → coreP xs j = true) : 2 * k ≤ xs.length := by
  rcases Nat.eq_zero_or_pos k with rfl | hp
  · omega
  · have := coreP_len (h1 (k - 1) (by omega)); omega
/-- A part of a slice that reads as xs. -/
theorem sl_part {w : World} {B : Nat} {A : Option Addr} {c : Nat} {xs : List Int} (h : Sl w B (.slice A xs.length c) xs) (l m : Nat) (hlm : l ≤ m) (hm : m ≤ xs.length) :
    Sl w B (.slice (if c = l then A else A.map (·.add l)) (m - l) (c - l)) ((xs.drop l).take (m - l)) := by
  obtain ⟨A', c', e, h2, h3, h4, h5⟩ := h
  obtain ⟨rfl, rfl⟩ : A = A' ∧ c = c' := by injection e with e1 e2 e3; exact ⟨e1, e3⟩
  have hlen : ((xs.drop l).take (m - l)).length = m - l := by simp; omega
  refine ⟨_, _, by rw [hlen], by omega, by omega, fun hn => ?_, fun hp => ?_⟩
  · split at hn
    · omega
    · cases A with
      | none => have := h4 rfl; omega
      | some a => cases hn
  · rw [hlen] at hp ⊢
    obtain ⟨b, off, rfl, hb, hc⟩ := h5 (by omega)
    rw [if_neg (by omega)]
    refine ⟨b, off + l, by rw [Option.map_some, Addr.add_lit], hb, fun k hk => ?_⟩
    rw [Nat.add_assoc, hc (l + k) (by omega)]
    congr 2
    unfold gi
    simp only [List.getD_eq_getElem?_getD, List.getElem?_take, List.getElem?_drop]
    rw [if_pos hk]

def fCoreA (n : Int) (xs : List Int) : List Int := if okFree n xs = true then coreA (red xs) else []
def fCoreB (n : Int) (xs : List Int) : List Int := if okFree n xs = true then coreB (red xs) else []
theorem fCoreA_len (n : Int) (xs : List Int) : (fCoreA n xs).length ≤ xs.length := by
  unfold fCoreA; split
  · have := red_len xs; simp [coreA]; omega
  · simp
theorem fCoreB_len (n : Int) (xs : List Int) : (fCoreB n xs).length ≤ xs.length := by
  unfold fCoreB; split
  · have := red_len xs; simp [coreB]; omega
  · simp
theorem two_rows {w w' : World} {r0 r1 : Value} {xs ys : List Int} (h : St w' w.heap.size [ow r0 xs, ow r1 ys]) : (∃ A c, r0 = .slice A xs.length c) ∧ ∃ A c, r1 = .slice A ys.length c := by
  obtain ⟨a, m, h1, h2, h3, b, m2, h4, h5, h6, h7⟩ := h
  obtain ⟨A, c, e, -⟩ := Ow.sl h2 (Nat.le_trans h4 (Nat.le_trans h6 h7))
  obtain ⟨A2, c2, e2, -⟩ := Ow.sl h5 h7
  exact ⟨⟨A, c, e⟩, A2, c2, e2⟩
theorem two_nil (w : World) (lo : Nat) (h : lo ≤ w.heap.size) : St w lo [ow (.slice none 0 0) [], ow (.slice none 0 0) []] :=
  ⟨lo, lo, Nat.le_refl _, Ow.nil _ _ _, Nat.le_refl _, lo, lo, Nat.le_refl _, Ow.nil _ _ _, Nat.le_refl _, h⟩
end Go.Proofs.Ytcinnbkhnonijaa
