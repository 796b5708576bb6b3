/-
  Contract of slices.Compact on a row of int64 of the call's own; of rising numbers (plain).
-/
import Derived.Test.YtgmppfhokfifgaaSrt
import Derived.Test.YtgmppfhokfifgaaGpo
import Derived.Lib.SlicesCompact
import Derived.Shelf.SlicesE.Compact
namespace Go.Proofs.Ytgmppfhokfifgaa
set_option maxRecDepth 10000
open Go.RowKit Go.Sort Go.Lib

theorem arr_gi (zs : List Int) (m : Nat) : zs.toArray[m]! = gi zs m := by
  simp only [gi, List.getD, Array.getElem!_eq_getD, Array.getD_eq_getD_getElem?, List.getElem?_toArray]
  rfl
theorem cpt_step {zs : List Int} (hs : zs.Pairwise (· ≤ ·)) (m : Nat) (hm : m ≤ zs.length) : (compactUpTo zs.toArray m).Pairwise (· < ·) ∧ ∀ x, x ∈ compactUpTo zs.toArray m ↔ x ∈ zs.take m := by
  induction m with
  | zero => simp [compactUpTo]
  | succ m ih =>
    obtain ⟨h1, h2⟩ := ih (by omega)
    have hlt : m < zs.length := by omega
    rw [compactUpTo_succ, take_gi hlt, arr_gi]
    have hle : ∀ x ∈ zs.take m, x ≤ gi zs (m - 1) := fun x hx => by
      obtain ⟨j, hj, e⟩ := List.getElem_of_mem hx
      rw [List.length_take] at hj
      rw [List.getElem_take] at e
      rw [← e, gi_eq (by omega)]
      by_cases q : j = m - 1
      · subst q; exact Int.le_refl _
      · exact List.pairwise_iff_getElem.1 hs j (m - 1) (by omega) (by omega) (by omega)
    cases hk : keeps zs.toArray m
    · have hm0 : m ≠ 0 := fun e => by subst e; simp [keeps] at hk
      have he : gi zs m = gi zs (m - 1) := by
        simp only [keeps, arr_gi] at hk
        simpa [hm0] using hk
      simp only [Bool.false_eq_true, if_false, List.append_nil]
      refine ⟨h1, fun x => ?_⟩
      rw [h2 x, List.mem_append, List.mem_singleton]
      constructor
      · exact fun h => .inl h
      · rintro (h | h)
        · exact h
        · rw [h, he]
          rw [gi_eq (by omega)]
          have : (zs.take m)[m - 1]'(by simp; omega) ∈ zs.take m := List.getElem_mem _
          rwa [List.getElem_take] at this
    · simp only [if_true]
      refine ⟨?_, fun x => ?_⟩
      · rw [List.pairwise_append]
        refine ⟨h1, by simp, fun a ha b hb => ?_⟩
        simp only [List.mem_singleton] at hb
        subst hb
        have h3 := (h2 a).1 ha
        have h4 := hle a h3
        have hm0 : 0 < m := by
          rcases Nat.eq_zero_or_pos m with e | e
          · subst e; simp at h3
          · exact e
        have h5 : gi zs (m - 1) ≤ gi zs m := by
          rw [gi_eq (by omega), gi_eq hlt]
          exact List.pairwise_iff_getElem.1 hs (m - 1) m (by omega) hlt (by omega)
        have h6 : gi zs m ≠ gi zs (m - 1) := by
          simp only [keeps, arr_gi] at hk
          intro e
          rw [e] at hk
          simp at hk
          omega
        omega
      · rw [List.mem_append, List.mem_append, h2 x]
/-- The numbers of a list, rising, each once. -/
theorem cpt_rising {zs : List Int} (hs : zs.Pairwise (· ≤ ·)) : (compactUpTo zs.toArray zs.length).Pairwise (· < ·) ∧ ∀ x, x ∈ compactUpTo zs.toArray zs.length ↔ x ∈ zs := by
  have := cpt_step hs zs.length (Nat.le_refl _)
  rwa [List.take_length] at this
def cpt (xs : List Int) : List Int := compactUpTo xs.toArray xs.length
theorem cpt_srt (xs : List Int) : cpt (srt xs) = putAll [] xs := by
  have h := cpt_rising (srt_sorted xs)
  refine rising_ext h.1 (putAll_pair (by simp)) fun x => ?_
  rw [putAll_mem]
  show x ∈ compactUpTo _ _ ↔ _
  rw [h.2 x, (srt_perm xs).mem_iff]
  simp
theorem cptUp_len (zs : List Int) (m : Nat) : (compactUpTo zs.toArray m).length ≤ m := by
  unfold compactUpTo
  rw [List.length_map]
  have := List.length_filter_le (keeps zs.toArray) (List.range m)
  rwa [List.length_range] at this
theorem cpt_len (xs : List Int) : (cpt xs).length ≤ xs.length := cptUp_len xs _
theorem i64_zero : ∀ w : World, (zeroValue 2).run Try.prog w = .ok (Value.int .i64 0) w := Try.zeroValue2
/-- slices.Compact of a row of the call's own. -/
theorem compact_own {w : World} {S : Nat → Prop} {g n cap : Nat} {xs : List Int} (h : (rw_ (.slice (some ⟨g, 0, none⟩) n cap) xs).p w S) (hl : xs.length ≤ 1000000) :
    Calls Try.prog 21 #[.slice (some ⟨g, 0, none⟩) n cap] w fun e w' => e = .returned (.slice (some ⟨g, 0, none⟩) (cpt xs).length cap) ∧ (rw_ (.slice (some ⟨g, 0, none⟩) (cpt xs).length cap) (cpt xs)).p w' S ∧ ChgS S w w' := by
  obtain ⟨⟨h1, h2⟩, h3⟩ := h
  have hg := h3 g rfl
  rcases h2 with ⟨h2, -⟩ | ⟨g', cap', cur, e, hlo, hh, hn, hcap, hsz, htake⟩
  · cases h2
  · simp only [Value.slice.injEq, Option.some.injEq, Addr.mk.injEq] at e
    obtain ⟨⟨rfl, -, -⟩, rfl, rfl⟩ := e
    rw [Nat.mul_one] at htake
    have hH := holds_of_blockI hh (ss := xs) htake
    have hc := Try.slices_Compact (Value.int .i64) (fun _ => rfl) (EqlAt.intD _ _ _) (NeqAt.intD _ _ _) 0 i64_zero g 0 cap xs.toArray w hH (by simp; omega) (by simpa using hn)
    simp only [List.size_toArray] at hc
    refine hc.mono ?_
    rintro e w' ⟨rfl, q, rfl⟩
    refine ⟨rfl, ?_⟩
    obtain ⟨ts, hts⟩ : ∃ ts : List Int, ts = compactUpTo xs.toArray xs.length ++ List.replicate (xs.length - (compactUpTo xs.toArray xs.length).length) 0 := ⟨_, rfl⟩
    rw [← hts]
    have hcl := cpt_len xs
    have htl : ts.length = xs.length := by rw [hts, List.length_append, List.length_replicate]; unfold cpt at hcl; omega
    have hb := grownBy_sortedI (w := w) (g := g) (n := q) (os := #[]) ts.toArray
    have hhp := heap_sortedI (w := w) (g := g) (n := q) (os := #[]) ts.toArray hh
    have hgw : ∀ W : World, grow W #[] = W := fun W => by simp [grow]
    rw [hgw] at hb hhp
    have htk := take_putCellsI cur ts (by rw [htl]; rw [hsz]; omega)
    refine ⟨⟨⟨by rw [vals_len]; omega, .inr ⟨g, cap, _, rfl, Nat.zero_le _, hhp, by omega, hcap, by simp [putCells, hsz], ?_⟩⟩, fun j hj => h3 j (by simpa [Value.ownBlock] using hj)⟩, ⟨hb.os, hb.tape, hb.output, hb.size, fun j hj hn => hb.block j hj fun e => hn (by injection e with e; subst e; exact hg)⟩⟩
    rw [Nat.mul_one]
    have : (cpt xs).length ≤ ts.length := by omega
    have h5 := congrArg (List.take (cpt xs).length) htk
    rw [List.take_take, Nat.min_eq_left this, ← List.map_take] at h5
    rw [h5, show ts.take (cpt xs).length = cpt xs by rw [hts]; exact List.take_left]
    rfl
end Go.Proofs.Ytgmppfhokfifgaa
