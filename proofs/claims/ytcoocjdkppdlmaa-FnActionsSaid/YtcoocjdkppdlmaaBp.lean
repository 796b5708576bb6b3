/-
  Contracts: the reference's permutation of a braid (l03Places, BraidPermutation).
-/
import Derived.Test.YtcoocjdkppdlmaaAcp
namespace Go.Proofs.Ytcoocjdkppdlmaa
set_option maxRecDepth 10000
open Go.RowKit

/-- The strands at all places. -/
def stS (l : Int) (a : List Int) : List Int := (a.set (ab l - 1).toNat (gi a (ab l).toNat)).set (ab l).toNat (gi a (ab l - 1).toNat)
def idL (n : Nat) : List Int := (List.range n).map fun (i : Nat) => (i : Int)
def plsL (n : Nat) (xs : List Int) : List Int := xs.foldl (fun a l => stS l a) (idL n)
theorem idL_len (n : Nat) : (idL n).length = n := by simp [idL]
theorem idL_succ (n : Nat) : idL (n + 1) = idL n ++ [(n : Int)] := by simp [idL, List.range_succ]
theorem stS_len (l : Int) (a : List Int) : (stS l a).length = a.length := by simp [stS]
theorem plsL_snoc (n : Nat) (xs : List Int) (l : Int) : plsL n (xs ++ [l]) = stS l (plsL n xs) := by simp [plsL]
theorem plc_snoc (xs : List Int) (l i : Int) : plc (xs ++ [l]) i = swp l (plc xs i) := by simp [plc]
theorem snoc_ind {P : List Int → Prop} (h0 : P []) (h1 : ∀ ys l, P ys → P (ys ++ [l])) (xs : List Int) : P xs := by
  have h : ∀ zs : List Int, P zs.reverse := fun zs => by
    induction zs with
    | nil => exact h0
    | cons z zs ih => rw [List.reverse_cons]; exact h1 _ _ ih
  have := h xs.reverse
  rwa [List.reverse_reverse] at this
theorem plsL_len (n : Nat) (xs : List Int) : (plsL n xs).length = n :=
  snoc_ind (P := fun xs => (plsL n xs).length = n) (idL_len n) (fun ys l h => by rw [plsL_snoc, stS_len]; exact h) xs
theorem stS_gi {n : Nat} {l : Int} {a : List Int} (ha : a.length = n) (hl : l ≠ 0 ∧ 1 - (n : Int) ≤ l ∧ l ≤ n - 1) {i : Nat} (hi : i < n) : gi (stS l a) i = gi a (swp l ((i : Int) + 1) - 1).toNat := by
  have hab : 0 < ab l ∧ ab l ≤ n - 1 := by unfold ab; omega
  obtain ⟨k, hk⟩ : ∃ k : Nat, ab l = (k : Int) + 1 := ⟨(ab l - 1).toNat, by omega⟩
  unfold stS swp
  rw [hk, show ((k : Int) + 1 - 1).toNat = k by omega, show ((k : Int) + 1).toNat = k + 1 by omega]
  by_cases h1 : i = k
  · subst h1
    rw [if_pos rfl, show ((i : Int) + 1 + 1 - 1).toNat = i + 1 by omega]
    simp [gi, List.getD, show i < a.length by omega]
  · by_cases h2 : i = k + 1
    · subst h2
      rw [if_neg (by omega), if_pos (by omega), show ((k : Int) + 1 - 1).toNat = k by omega]
      simp [gi, List.getD, show k + 1 < a.length by omega]
    · rw [if_neg (by omega), if_neg (by omega), show ((i : Int) + 1 - 1).toNat = i by omega]
      simp [gi, List.getD, show ¬ k = i by omega, show ¬ k + 1 = i by omega]
/-- The strand at a place, and the place of it. -/
theorem plsL_at {n : Nat} {xs : List Int} (hx : ∀ x ∈ xs, x ≠ 0 ∧ 1 - (n : Int) ≤ x ∧ x ≤ n - 1) {i : Nat} (hi : i < n) : 0 ≤ gi (plsL n xs) i ∧ gi (plsL n xs) i < n ∧ plc xs (gi (plsL n xs) i + 1) = (i : Int) + 1 := by
  revert i hx
  refine snoc_ind (P := fun xs => (∀ x ∈ xs, x ≠ 0 ∧ 1 - (n : Int) ≤ x ∧ x ≤ n - 1) → ∀ {i : Nat}, i < n → 0 ≤ gi (plsL n xs) i ∧ gi (plsL n xs) i < n ∧ plc xs (gi (plsL n xs) i + 1) = (i : Int) + 1) ?_ ?_ xs
  · intro _ i hi
    have e : gi (plsL n []) i = (i : Int) := by
      rw [gi_eq (by rw [plsL_len]; exact hi)]; simp [plsL, idL]
    rw [e]
    exact ⟨by omega, by omega, rfl⟩
  · intro ys l ih hx i hi
    have hl := hx l (by simp)
    have hy : ∀ x ∈ ys, x ≠ 0 ∧ 1 - (n : Int) ≤ x ∧ x ≤ n - 1 := fun x hx' => hx x (by simp [hx'])
    obtain ⟨b0, b1⟩ := swp_bd (i := (i : Int) + 1) hl (by omega) (by omega)
    obtain ⟨m, hm⟩ : ∃ m : Nat, swp l ((i : Int) + 1) = (m : Int) + 1 := ⟨(swp l ((i : Int) + 1) - 1).toNat, by omega⟩
    rw [plsL_snoc, stS_gi (plsL_len n ys) hl hi, hm, show ((m : Int) + 1 - 1).toNat = m by omega]
    obtain ⟨c0, c1, c2⟩ := ih hy (show m < n by omega)
    refine ⟨c0, c1, ?_⟩
    rw [plc_snoc, c2, ← hm, swp_swp]
/-- The permutation, so far. -/
def bpUp (n : Nat) (xs : List Int) (i : Nat) : List Int := (List.range n).map fun (s : Nat) => if plc xs ((s : Int) + 1) - 1 < i then plc xs ((s : Int) + 1) - 1 else 0
theorem bpUp_len (n : Nat) (xs : List Int) (i : Nat) : (bpUp n xs i).length = n := by simp [bpUp]
theorem bpUp_zero {n : Nat} {xs : List Int} (hx : ∀ x ∈ xs, x ≠ 0 ∧ 1 - (n : Int) ≤ x ∧ x ≤ n - 1) : bpUp n xs 0 = List.replicate n 0 := by
  apply List.ext_getElem (by simp [bpUp])
  intro j h1 h2
  simp [bpUp] at h1 ⊢
  intro h3
  have := (plc_bd (n := n) (i := (j : Int) + 1) hx (by omega) (by omega)).1
  omega
theorem bpUp_all {n : Nat} {xs : List Int} (hx : ∀ x ∈ xs, x ≠ 0 ∧ 1 - (n : Int) ≤ x ∧ x ≤ n - 1) : bpUp n xs n = plL n xs := by
  apply List.ext_getElem (by simp [bpUp, plL])
  intro j h1 h2
  simp [bpUp] at h1
  simp [bpUp, plL]
  intro h3
  have := (plc_bd (n := n) (i := (j : Int) + 1) hx (by omega) (by omega)).2
  omega
theorem bpUp_step {n : Nat} {xs : List Int} (hx : ∀ x ∈ xs, x ≠ 0 ∧ 1 - (n : Int) ≤ x ∧ x ≤ n - 1) {i : Nat} (hi : i < n) : (bpUp n xs i).set (gi (plsL n xs) i).toNat (i : Int) = bpUp n xs (i + 1) := by
  obtain ⟨c0, c1, c2⟩ := plsL_at hx hi
  apply List.ext_getElem (by simp [bpUp])
  intro j h1 h2
  simp [bpUp] at h1 h2
  by_cases hj : (gi (plsL n xs) i).toNat = j
  · subst hj
    have e : plc xs ((((gi (plsL n xs) i).toNat : Nat) : Int) + 1) = (i : Int) + 1 := by rw [show (((gi (plsL n xs) i).toNat : Nat) : Int) = gi (plsL n xs) i by omega]; exact c2
    rw [List.getElem_set_self]
    simp only [bpUp, List.getElem_map, List.getElem_range]
    rw [e, if_pos (by omega)]; omega
  · rw [List.getElem_set_ne hj]
    simp only [bpUp, List.getElem_map, List.getElem_range]
    have hne : plc xs ((j : Int) + 1) ≠ (i : Int) + 1 := fun e => by
      have := plc_inj xs (e.trans c2.symm)
      omega
    by_cases h3 : plc xs ((j : Int) + 1) - 1 < (i : Int)
    · rw [if_pos h3, if_pos (by omega)]
    · rw [if_neg h3, if_neg (by omega)]
set_option maxHeartbeats 3200000 in
theorem l03Places_any (n : Nat) (v : Value) (xs : List Int) (B : Nat) (w : World) (h : Sl w B v xs) (hB : B ≤ w.heap.size) (hn : n ≤ 12) (hx : ∀ x ∈ xs, x ≠ 0 ∧ 1 - (n : Int) ≤ x ∧ x ≤ n - 1) (hl : xs.length ≤ 1000) :
    Calls Try.prog 81 #[.int .i64 n, v] w fun e w' => ∃ r, e = .returned r ∧ Ow w' w.heap.size w'.heap.size r (plsL n xs) ∧ Below w.heap.size w w' := by
  obtain ⟨A, c, rfl, hcl, hcm, -, hcells⟩ := id h
  unfold maxLen at hcm
  have HC := Lib.hid hcells
  have HX := Lib.hid hx
  have hO := Ow.empty w
  have ha := al1 w (.cells #[] 2)
  clear hcells hx
  go_enter Try.func81, Try.ntmps81
  go_wp2
  go_loopw [5, 6] (fun o i wr => ∃ k : Nat, k ≤ n ∧ i = .int .i64 k ∧ Ow wr w.heap.size wr.heap.size o (idL k) ∧ Below w.heap.size w wr) (fun _ i _ => n - (intOf i).toNat)
  case atStart => exact ⟨0, Nat.zero_le _, rfl, hO, ha⟩
  case round =>
    obtain ⟨k, hk, rfl, hO2, hb2⟩ := hrel
    have hz2 := hb2.size
    by_cases hlt : k < n
    · have hltI : (k : Int) < n := by omega
      have hlen := idL_len k
      have HS := Lib.hid (idL_succ k)
      go_wp2_with (at_builtin; (refine wpList_append_one rfl _ _ rfl _ _ _ _ _ (k : Int) rfl rfl hO2 hz2 (by omega) ?_); intro v5 w5 hO5 hg5 _)
      have hbw := hO2.grown hg5 (Nat.le_refl _) hz2
      go_roundw
      case rel => exact ⟨k + 1, by omega, by go_num, by rw [HS.out]; exact hO5, hb2.trans (hbw.mono (Nat.le_refl _))⟩
      case measure => simp [intOf]; omega
    · obtain rfl : k = n := by omega
      obtain ⟨w3, hw3⟩ : ∃ x, x = wr := ⟨_, rfl⟩
      subst hw3
      obtain ⟨A5, c5, e5, -⟩ := id (hO2.sl (Nat.le_refl _))
      rw [idL_len] at e5
      subst e5
      go_wp2
      go_loopw [7] (fun i wr => ∃ j : Nat, j ≤ xs.length ∧ i = .int .i64 j ∧ Ow wr w.heap.size wr.heap.size (.slice A5 k c5) (plsL k (xs.take j)) ∧ Below w.heap.size w wr) (fun i _ => xs.length - (intOf i).toNat)
      case atStart => exact ⟨0, Nat.zero_le _, rfl, hO2, hb2⟩
      case round =>
        obtain ⟨j, hj, rfl, hO3, hb3⟩ := hrel
        have hz3 := hb3.size
        by_cases hlj : j < xs.length
        · obtain ⟨b, off, rfl, hbB, hcell⟩ := HC.out (by omega)
          have q := (show wr.cell? ⟨b, off + j, none⟩ = some (.int .i64 (gi xs j)) by rw [hb3.cell (by simp only; omega)]; exact hcell j hlj)
          have hX := HX.out _ (gi_mem hlj)
          have HT := Lib.hid (show stS (gi xs j) (plsL k (xs.take j)) = plsL k (xs.take (j + 1)) by rw [take_gi hlj, plsL_snoc])
          have hln := plsL_len k (xs.take j)
          generalize plsL k (xs.take j) = a at *
          generalize gi xs j = l at *
          clear hcell
          obtain ⟨x0, x1, x2⟩ := hX
          have hab : 0 < ab l ∧ ab l ≤ (k : Int) - 1 := by unfold ab; omega
          obtain ⟨m, hm⟩ : ∃ m : Nat, ab l = (m : Int) + 1 := ⟨(ab l - 1).toNat, by omega⟩
          have hm1 : m + 1 < a.length := by omega
          obtain ⟨g, cap, hv, hlo, hhi, r1, f1, hO4, hch4⟩ := hO3.set_ m (by omega) (gi a (m + 1))
          obtain ⟨g2, cap2, hv2, -, -, r2, f2, -, -⟩ := hO3.set_ (m + 1) (by omega) (gi a m)
          obtain ⟨g3, cap3, hv3, -, -, -, -, hO5, hch5⟩ := hO4.set_ (m + 1) (by simp; omega) (gi a m)
          simp only [Value.slice.injEq] at hv hv2 hv3
          obtain ⟨hv, -, -⟩ := hv
          obtain ⟨hv2, -, -⟩ := hv2
          obtain ⟨hv3, -, -⟩ := hv3
          subst hv
          obtain rfl : g = g2 := by injection hv2 with hv2; injection hv2
          obtain rfl : g = g3 := by injection hv3 with hv3; injection hv3
          have hb5 : Below w.heap.size wr ((wr.setCell ⟨g, m, none⟩ (.int .i64 (gi a (m + 1)))).setCell ⟨g, m + 1, none⟩ (.int .i64 (gi a m))) := (hch4.trans hch5).below (Nat.le_refl _) hz3
          have HO5 := Lib.hid hO5
          have HB5 := Lib.hid (hb3.trans hb5)
          have hz5 := hb5.size
          have hgl : 0 ≤ (m : Int) + 1 := by omega
          have HZ := Lib.hid hz5
          have HLN := Lib.hid hln
          have hm2 : (m : Int) + 1 < a.length := by omega
          clear hO3 hO4 hO5 hch4 hch5 hb3 hb5 hv2 hv3 hln hz5
          go_wp2_with (go_at_call 102; refine (l03Abs_any l _ (by omega) (by omega)).mono ?_; rintro e w' ⟨rfl, rfl⟩)
          go_roundw
          case rel =>
            refine ⟨j + 1, by omega, by go_num, ?_, HB5.out⟩
            rw [← HT.out, stS, hm, show ((m : Int) + 1 - 1).toNat = m by omega, show ((m : Int) + 1).toNat = m + 1 by omega]
            have := HO5.out.mono (Nat.le_refl _) HZ.out
            simpa using this
          case measure => simp [intOf]; omega
        · obtain rfl : j = xs.length := by omega
          rw [List.take_length] at hO3
          go_wp2
          go_ret
          exact ⟨_, rfl, hO3, hb3⟩
set_option maxHeartbeats 3200000 in
theorem BraidPermutation_any (n : Nat) (v : Value) (xs : List Int) (B : Nat) (w : World) (h : Sl w B v xs) (hB : B ≤ w.heap.size) (hok : okBr n xs = true) :
    Calls Try.prog 44 #[.agg #[.int .i64 n, v]] w fun e w' => ∃ r, e = .returned r ∧ Ow w' w.heap.size w'.heap.size r (plL n xs) ∧ Below w.heap.size w w' := by
  obtain ⟨A, c, rfl, -⟩ := id h
  obtain ⟨k1, k2, k3, k4⟩ := okBr_parts hok
  have hx : ∀ x ∈ xs, x ≠ 0 ∧ 1 - (n : Int) ≤ x ∧ x ≤ n - 1 := fun x hx => letters_mem k4 x hx
  have hA := al1 w (.cells #[.int .i64 n, .slice A xs.length c] 41)
  have hs := h.below hA hB
  have c0 : (w.alloc (.cells #[.int .i64 n, .slice A xs.length c] 41)).cell? ⟨w.heap.size, 0, none⟩ = some (.int .i64 n) := by simp
  have c1 : (w.alloc (.cells #[.int .i64 n, .slice A xs.length c] 41)).cell? ⟨w.heap.size, 1, none⟩ = some (.slice A xs.length c) := by simp
  obtain ⟨i0, hi, hz0, hz1, hz2⟩ := info_parts i64_info
  have HI := Lib.hid hi
  have HZ := Lib.hid hz0
  have HX := Lib.hid hx
  clear hi hz0 k4 hx
  go_enter Try.func44, Try.ntmps44
  go_wp2_with fail
  refine (l03Ok_any n _ xs B _ _ hs c0 c1).mono ?_
  rintro e w1 ⟨rfl, q, rfl⟩
  rw [hok]
  go_wp2_with fail
  refine (l03Places_any n _ xs B _ (hs.drewN q) (by simp; omega) (by omega) HX.out (by omega)).mono ?_
  rintro e w2 ⟨r2, rfl, hO2, hb2⟩
  have hln := plsL_len n xs
  obtain ⟨A2, c2, rfl, -⟩ := id (hO2.sl (Nat.le_refl _))
  have hb02 : Below w.heap.size w w2 := hA.trans ((show Below _ (w.alloc (.cells #[.int .i64 n, .slice A xs.length c] 41)) w2 from Below.trans (drewN_below _ _ _) hb2).mono (by simp))
  have hz2' := hb02.size
  have HO2 := Lib.hid (hO2.sl (Nat.le_refl _))
  have HB2 := Lib.hid hb02
  have HLN := Lib.hid hln
  rw [hln]
  clear hb2 hO2 hb02 hs c0 c1 hA hln
  go_wp2_with (at_make; refine wpList_make_full _ rfl _ _ 23 rfl w2.heap.size 2 i0 (.int .i64 0) 1 Try.underlying23 HI.out HZ.out hz1 _ _ _ _ n rfl rfl rfl rfl (by rw [hz2]; omega) (by unfold maxLen; omega) (Nat.le_refl _) ?_)
  intro w3 hown hg3
  have hO : Ow w3 w2.heap.size w3.heap.size (.slice (some ⟨w2.heap.size, 0, none⟩) n n) (bpUp n xs 0) := by
    refine Ow.of_own hown (by rw [bpUp_len]) ?_
    rw [toList_madeCells_one, bpUp_zero HX.out]
    simp [vals]
  have hb3 : Below w2.heap.size w2 w3 := (Below.refl w2.heap.size w2).grown hg3 (Nat.le_refl _) (by simp)
  have hs3 := HO2.out.below hb3 (Nat.le_refl _)
  have hz3 := hb3.size
  obtain ⟨A2', c2', e2, -, -, -, hcells⟩ := hs3
  injection e2 with e2 e3 e4
  subst e2 e4
  have HC := Lib.hid hcells
  have HB3 := Lib.hid (HB2.out.trans (hb3.mono hz2'))
  have hlt3 : w2.heap.size < w3.heap.size := (hown.lt _ rfl).2
  clear hown hg3 hcells hb3 e3
  go_wp2_with fail
  go_loopw [5] (fun i wr => ∃ j : Nat, j ≤ n ∧ i = .int .i64 j ∧ Ow wr w2.heap.size wr.heap.size (.slice (some ⟨w2.heap.size, 0, none⟩) n n) (bpUp n xs j) ∧ Below w2.heap.size w3 wr) (fun i _ => n - (intOf i).toNat)
  case atStart => exact ⟨0, Nat.zero_le _, rfl, hO, Below.refl _ _⟩
  case round =>
    obtain ⟨j, hj, rfl, hO4, hb4⟩ := hrel
    have hz4 := hb4.size
    by_cases hlt : j < n
    · obtain ⟨b, off, rfl, hbB, hcell⟩ := HC.out (by rw [HLN.out]; omega)
      have q := (show wr.cell? ⟨b, off + j, none⟩ = some (.int .i64 (gi (plsL n xs) j)) by rw [hb4.cell (by simp only; omega)]; exact hcell j (by rw [HLN.out]; exact hlt))
      obtain ⟨x0, x1, -⟩ := plsL_at HX.out hlt
      have HT := Lib.hid (bpUp_step HX.out hlt)
      generalize gi (plsL n xs) j = y at *
      obtain ⟨m, rfl⟩ : ∃ m : Nat, y = m := ⟨y.toNat, by omega⟩
      have hmn : m < n := by omega
      have hjI : (j : Int) < n := by omega
      obtain ⟨g, cap, hv, hlo, hhi, r1, f1, hO5, hch5⟩ := hO4.set_ m (by rw [bpUp_len]; omega) (j : Int)
      obtain rfl : w2.heap.size = g := by injection hv with hv _ _; injection hv with hv; injection hv
      have HO5 := Lib.hid hO5
      have HB5 := Lib.hid (hb4.trans (hch5.below (Nat.le_refl _) (by omega)))
      have HZ5 := Lib.hid hch5.size
      clear hcell hO4 hb4 hv hO5 hch5
      go_wp2
      go_roundw
      case rel =>
        refine ⟨j + 1, by omega, by go_num, ?_, HB5.out⟩
        rw [← HT.out]
        have := HO5.out.mono (Nat.le_refl _) HZ5.out
        simpa using this
      case measure => simp [intOf]; omega
    · obtain rfl : j = n := by omega
      go_wp2
      go_ret
      exact ⟨_, rfl, by rw [bpUp_all HX.out] at hO4; exact hO4.mono hz2' (Nat.le_refl _), HB3.out.trans (hb4.mono hz2')⟩
end Go.Proofs.Ytcoocjdkppdlmaa
