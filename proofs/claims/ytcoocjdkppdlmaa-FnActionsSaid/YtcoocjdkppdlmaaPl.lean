/-
  Contracts: the generators of which images are conjugates (the program's generatorsOf, the reference's l05Places), ActionPermutation of both.
-/
import Derived.Test.YtcoocjdkppdlmaaAct3
namespace Go.Proofs.Ytcoocjdkppdlmaa
set_option maxRecDepth 10000
open Go.RowKit

def hasI (xs : List Int) (k : Int) : Bool := xs.any fun x => x == k
theorem hasI_no {xs : List Int} {k : Int} (h : ∀ j, j < xs.length → gi xs j ≠ k) : hasI xs k = false := by
  rw [← Bool.not_eq_true, hasI, List.any_eq_true]
  rintro ⟨x, hx, he⟩
  obtain ⟨j, hj, rfl⟩ := List.getElem_of_mem hx
  rw [← gi_eq hj] at he
  exact h j hj (by simpa using he)
theorem hasI_yes {xs : List Int} {k : Int} {j : Nat} (hj : j < xs.length) (h : gi xs j = k) : hasI xs k = true := by
  rw [hasI, List.any_eq_true]; exact ⟨_, gi_mem hj, by simpa using h⟩
set_option maxHeartbeats 400000 in
theorem indexInts_any (v : Value) (xs : List Int) (k : Int) (B : Nat) (w : World) (h : Sl w B v xs) :
    Calls Try.prog 105 #[v, .int .i64 k] w fun e w' => (∃ r : Int, e = .returned (.int .i64 r) ∧ -1 ≤ r ∧ hasI xs k = decide (0 ≤ r)) ∧ w = w' := by
  obtain ⟨A, c, rfl, hl, hm, _, hcells⟩ := h
  unfold maxLen at hm
  have HC := Lib.hid hcells
  clear hcells
  go_enter Try.func105, Try.ntmps105
  go_wp2
  go_loop [8] (fun i => ∃ j : Nat, j ≤ xs.length ∧ i = .int .i64 j ∧ ∀ i, i < j → gi xs i ≠ k) (fun i => xs.length - (intOf i).toNat)
  case atStart => exact ⟨0, Nat.zero_le _, rfl, fun j hj => absurd hj (Nat.not_lt_zero _)⟩
  case round =>
    obtain ⟨j, hj, rfl, hgood⟩ := hrel
    have HG := Lib.hid hgood
    clear hgood
    by_cases hlt : j < xs.length
    · obtain ⟨b, off, rfl, hbB, hcell⟩ := HC.out (by omega)
      have q1 := hcell j hlt
      clear hcell
      by_cases he : gi xs j = k
      · have heb : (k == gi xs j) = true := by simp [he]
        have HF := Lib.hid (hasI_yes hlt he)
        clear he
        go_wp2
        go_ret
        exact ⟨⟨j, rfl, by omega, by rw [HF.out]; simp⟩, rfl⟩
      · have heb : (k == gi xs j) = false := by simp; exact fun e => he e.symm
        have HN := Lib.hid he
        clear he
        go_wp2
        go_round
        case rel =>
          refine ⟨j + 1, by omega, by go_num, fun i hi => ?_⟩
          by_cases hij : i < j
          · exact HG.out i hij
          · obtain rfl : i = j := by omega
            exact HN.out
        case measure => simp [intOf]; omega
    · have HF := Lib.hid (hasI_no (k := k) fun i hi => HG.out i (by omega))
      go_wp2
      go_ret
      exact ⟨⟨-1, rfl, by omega, by rw [HF.out]; simp⟩, rfl⟩
set_option maxHeartbeats 400000 in
theorem containsInts_any (v : Value) (xs : List Int) (k : Int) (B : Nat) (w : World) (h : Sl w B v xs) :
    Calls Try.prog 89 #[v, .int .i64 k] w fun e w' => e = .returned (.bool (hasI xs k)) ∧ w = w' := by
  go_enter Try.func89, Try.ntmps89
  go_wp2_with (go_at_call 105; refine (indexInts_any _ xs k B _ h).mono ?_; rintro e w' ⟨⟨r, rfl, hr, hlet⟩, rfl⟩; have HL := Lib.hid hlet; clear hlet)
  go_ret
  exact ⟨ret_bool HL.out.symm, rfl⟩
set_option maxHeartbeats 400000 in
theorem l00Has_any (v : Value) (xs : List Int) (k : Int) (B : Nat) (w : World) (h : Sl w B v xs) :
    Calls Try.prog 88 #[v, .int .i64 k] w fun e w' => e = .returned (.bool (hasI xs k)) ∧ w = w' := by
  obtain ⟨A, c, rfl, hl, hm, _, hcells⟩ := h
  unfold maxLen at hm
  have HC := Lib.hid hcells
  clear hcells
  go_enter Try.func88, Try.ntmps88
  go_wp2
  go_loop [5] (fun i => ∃ j : Nat, j ≤ xs.length ∧ i = .int .i64 j ∧ ∀ i, i < j → gi xs i ≠ k) (fun i => xs.length - (intOf i).toNat)
  case atStart => exact ⟨0, Nat.zero_le _, rfl, fun j hj => absurd hj (Nat.not_lt_zero _)⟩
  case round =>
    obtain ⟨j, hj, rfl, hgood⟩ := hrel
    have HG := Lib.hid hgood
    clear hgood
    by_cases hlt : j < xs.length
    · obtain ⟨b, off, rfl, hbB, hcell⟩ := HC.out (by omega)
      have q1 := hcell j hlt
      clear hcell
      by_cases he : gi xs j = k
      · have heb : (gi xs j == k) = true := by simp [he]
        have HF := Lib.hid (hasI_yes hlt he)
        clear he
        go_wp2
        go_ret
        exact ⟨ret_bool HF.out.symm, rfl⟩
      · have heb : (gi xs j == k) = false := by simp [he]
        have HN := Lib.hid he
        clear he
        go_wp2
        go_round
        case rel =>
          refine ⟨j + 1, by omega, by go_num, fun i hi => ?_⟩
          by_cases hij : i < j
          · exact HG.out i hij
          · obtain rfl : i = j := by omega
            exact HN.out
        case measure => simp [intOf]; omega
    · have HF := Lib.hid (hasI_no (k := k) fun i hi => HG.out i (by omega))
      go_wp2
      go_ret
      exact ⟨ret_bool HF.out.symm, rfl⟩
/-- The core of an image. -/
def coreR (xs : List Int) : List Int := coreB (red xs)
def plB (out : List Int) (d : List Int) : Bool := decide (d.length = 1) && (decide (0 < gi d 0) && !hasI out (gi d 0 - 1))
def plGo (out : List Int) : List (List Int) → Option (List Int)
  | [] => some out
  | xs :: r => if plB out (coreR xs) = true then plGo (out ++ [gi (coreR xs) 0 - 1]) r else none
theorem plGo_on {out : List Int} {xss : List (List Int)} {k : Nat} (hk : k < xss.length) (h : plB out (coreR (gl xss k)) = true) : plGo out (xss.drop k) = plGo (out ++ [gi (coreR (gl xss k)) 0 - 1]) (xss.drop (k + 1)) := by rw [drop_gl hk, plGo, if_pos h]
theorem plGo_off {out : List Int} {xss : List (List Int)} {k : Nat} (hk : k < xss.length) (h : plB out (coreR (gl xss k)) = false) : plGo out (xss.drop k) = none := by rw [drop_gl hk, plGo, if_neg (by rw [h]; simp)]
theorem plGo_len {out o : List Int} {xss : List (List Int)} (h : plGo out xss = some o) : o.length = out.length + xss.length := by
  induction xss generalizing out with
  | nil => simp [plGo] at h; rw [← h]; simp
  | cons a r ih =>
    rw [plGo] at h
    split at h
    · have := ih h; simp at this ⊢; omega
    · cases h
theorem coreR_mem {xs : List Int} {x : Int} (h : x ∈ coreR xs) : x ∈ xs := red_mem (List.mem_of_mem_drop (List.mem_of_mem_take h))
theorem coreR_len (xs : List Int) : (coreR xs).length ≤ xs.length := by
  have := red_len xs; simp [coreR, coreB]; omega
set_option maxHeartbeats 3200000 in
theorem generatorsOf_any (v : Value) (xss : List (List Int)) (B : Nat) (w : World) (h : SlS w B v xss) (hB : B ≤ w.heap.size) (hok : okImgs xss = true) :
    Calls Try.prog 55 #[v] w fun e w' => ∃ r, e = .returned (.tuple #[r, .bool (plGo [] xss).isSome]) ∧ Ow w' w.heap.size w'.heap.size r (optL (plGo [] xss)) ∧ Below w.heap.size w w' := by
  obtain ⟨A, c, rfl, hl, hm, -, hcells⟩ := id h
  unfold maxLen at hm
  have HC := Lib.hid hcells
  have HOK := Lib.hid hok
  have hn12 := (okImgs_parts hok).1
  have hO := Ow.empty w
  have ha := al1 w (.cells #[] 2)
  clear hcells hok
  go_enter Try.func55, Try.ntmps55
  go_wp2_with fail
  go_loopw [4, 12] (fun o i wr => ∃ (k : Nat) (out : List Int), k ≤ xss.length ∧ i = .int .i64 k ∧ Ow wr w.heap.size wr.heap.size o out ∧ out.length = k ∧ plGo [] xss = plGo out (xss.drop k) ∧ Below w.heap.size w wr) (fun _ i _ => xss.length - (intOf i).toNat)
  case atStart => exact ⟨0, [], Nat.zero_le _, rfl, hO, rfl, rfl, ha⟩
  case round =>
    obtain ⟨k, out, hk, rfl, hO, hol, he, hb⟩ := hrel
    have HE := Lib.hid he
    have HOL := Lib.hid hol
    clear he hol
    by_cases hlt : k < xss.length
    · obtain ⟨b, off, rfl, hbB, hcell⟩ := HC.out (by omega)
      obtain ⟨u3, q0, s0⟩ := hcell k hlt
      have q1 : wr.cell? ⟨b, off + k, none⟩ = some u3 := by rw [hb.cell (by simp only; omega)]; exact q0
      have s1 := s0.below hb hB
      obtain ⟨r1, r2⟩ := imgs_row HOK.out hlt
      have HR := Lib.hid r2
      have hsz2 := hb.size
      have HCM := Lib.hid (fun x (hx : x ∈ coreR (gl xss k)) => r2 x (coreR_mem hx))
      have HON := Lib.hid (fun hp => HE.out.trans (plGo_on (out := out) hlt hp))
      have HOFF := Lib.hid (fun hp => HE.out.trans (plGo_off (out := out) hlt hp))
      clear hcell q0 s0 r2
      go_wp2_with fail
      refine (coreOf_any _ _ B _ s1 (Nat.le_trans hB hsz2) (by omega) (fun x hx => by have := HR.out x hx; omega)).mono ?_
      rintro e w2 ⟨r5, r6, rfl, ho, hb2⟩
      obtain ⟨⟨A5, c5, rfl⟩, A6, c6, rfl⟩ := two_rows ho
      have s6 : Sl w2 w2.heap.size (.slice A6 (coreB (red (gl xss k))).length c6) (coreR (gl xss k)) := St.rd [ow (.slice A5 (coreA (red (gl xss k))).length c5) (coreA (red (gl xss k)))] [] ho
      have hO2 := hO.below hb2 (Nat.le_refl _)
      have so2 := (hO2.sl hb2.size)
      have hb3 := hb.trans (hb2.mono hsz2)
      have hlD : (coreB (red (gl xss k))).length = (coreR (gl xss k)).length := rfl
      rw [hlD]
      rw [hlD] at s6
      generalize hD : coreR (gl xss k) = D at *
      clear hD ho hlD
      by_cases hd1 : D.length = 1
      · obtain ⟨A7, c7, e7, hl7, hm7, -, hc7⟩ := id s6
        obtain ⟨b7, o7, e8, hb7, hcc7⟩ := hc7 (by omega)
        injection e7 with e7 _ e9
        subst e7 e9 e8
        have q7 : w2.cell? ⟨b7, o7, none⟩ = some (.int .i64 (gi D 0)) := hcc7 0 (by omega)
        have hx := HCM.out _ (gi_mem (show 0 < D.length by omega))
        obtain ⟨x0, x1, x2⟩ := hx
        have hd1b : ((D.length : Int) != 1) = false := by simp; omega
        have hdp : (0 : Int) < D.length := by omega
        have HD1 := Lib.hid hd1
        clear hd1 hc7 hcc7
        by_cases hp : 0 < gi D 0
        · have hpb : decide (gi D 0 < 0) = false := by simp; omega
          cases hh : hasI out (gi D 0 - 1)
          · have HN := Lib.hid (HON.out (by rw [plB, decide_eq_true HD1.out, decide_eq_true hp, hh]; rfl))
            have hO3 := hO2.mono (Nat.le_refl _) hb2.size
            have hsz3 := Nat.le_trans hsz2 hb2.size
            have hl9 : out.length ≤ 1000000000 := by have := HOL.out; omega
            go_wp2_with (first | (go_at_call 89; refine (containsInts_any _ out _ _ _ so2).mono ?_; rintro e w' ⟨rfl, rfl⟩) | (at_builtin; refine wpList_append_one rfl _ _ rfl _ _ _ _ _ (gi D 0 - 1) rfl rfl hO3 hsz3 hl9 ?_; intro v1 w4 hO4 hg4 _))
            have hbw := hO3.grown hg4 (Nat.le_refl _) hsz3
            go_roundw
            case rel => exact ⟨k + 1, _, by omega, by go_num, hO4, by rw [List.length_append, HOL.out]; rfl, HN.out, hb3.trans hbw⟩
            case measure => simp [intOf]; omega
          · have HN := Lib.hid (HOFF.out (by rw [plB, hh]; simp))
            go_wp2_with (go_at_call 89; refine (containsInts_any _ out _ _ _ so2).mono ?_; rintro e w' ⟨rfl, rfl⟩)
            go_ret2
            exact ⟨_, by rw [HN.out]; rfl, by rw [HN.out]; exact Ow.nil _ _ _, hb3⟩
        · have hpb : decide (gi D 0 < 0) = true := by simp; omega
          have HN := Lib.hid (HOFF.out (by rw [plB, decide_eq_false hp]; simp))
          go_wp2_with fail
          go_ret2
          exact ⟨_, by rw [HN.out]; rfl, by rw [HN.out]; exact Ow.nil _ _ _, hb3⟩
      · have hd1b : ((D.length : Int) != 1) = true := by simp; omega
        have HN := Lib.hid (HOFF.out (by rw [plB, decide_eq_false hd1]; rfl))
        go_wp2_with fail
        go_ret2
        exact ⟨_, by rw [HN.out]; rfl, by rw [HN.out]; exact Ow.nil _ _ _, hb3⟩
    · obtain rfl : k = xss.length := by omega
      have HN := Lib.hid (show plGo [] xss = some out by rw [HE.out, List.drop_length]; rfl)
      go_wp2_with fail
      go_ret2
      exact ⟨_, by rw [HN.out]; rfl, by rw [HN.out]; exact hO, hb⟩
set_option maxHeartbeats 3200000 in
theorem l05Places_any (v : Value) (xss : List (List Int)) (B : Nat) (w : World) (h : SlS w B v xss) (hB : B ≤ w.heap.size) (hok : okImgs xss = true) :
    Calls Try.prog 54 #[v] w fun e w' => ∃ r, e = .returned (.tuple #[r, .bool (plGo [] xss).isSome]) ∧ Ow w' w.heap.size w'.heap.size r (optL (plGo [] xss)) ∧ Below w.heap.size w w' := by
  obtain ⟨A, c, rfl, hl, hm, -, hcells⟩ := id h
  unfold maxLen at hm
  have HC := Lib.hid hcells
  have HOK := Lib.hid hok
  have hn12 := (okImgs_parts hok).1
  have hO := Ow.empty w
  have ha := al1 w (.cells #[] 2)
  clear hcells hok
  go_enter Try.func54, Try.ntmps54
  go_wp2_with fail
  go_loopw [4, 5] (fun o i wr => ∃ (k : Nat) (out : List Int), k ≤ xss.length ∧ i = .int .i64 k ∧ Ow wr w.heap.size wr.heap.size o out ∧ out.length = k ∧ plGo [] xss = plGo out (xss.drop k) ∧ Below w.heap.size w wr) (fun _ i _ => xss.length - (intOf i).toNat)
  case atStart => exact ⟨0, [], Nat.zero_le _, rfl, hO, rfl, rfl, ha⟩
  case round =>
    obtain ⟨k, out, hk, rfl, hO, hol, he, hb⟩ := hrel
    have HE := Lib.hid he
    have HOL := Lib.hid hol
    clear he hol
    by_cases hlt : k < xss.length
    · obtain ⟨b, off, rfl, hbB, hcell⟩ := HC.out (by omega)
      obtain ⟨u3, q0, s0⟩ := hcell k hlt
      have q1 : wr.cell? ⟨b, off + k, none⟩ = some u3 := by rw [hb.cell (by simp only; omega)]; exact q0
      have s1 := s0.below hb hB
      obtain ⟨r1, r2⟩ := imgs_row HOK.out hlt
      have HR := Lib.hid r2
      have hsz2 := hb.size
      have HCM := Lib.hid (fun x (hx : x ∈ coreR (gl xss k)) => r2 x (coreR_mem hx))
      have HON := Lib.hid (fun hp => HE.out.trans (plGo_on (out := out) hlt hp))
      have HOFF := Lib.hid (fun hp => HE.out.trans (plGo_off (out := out) hlt hp))
      clear hcell q0 s0 r2
      go_wp2_with fail
      refine (l03Reduce_any _ _ B _ s1 (Nat.le_trans hB hsz2) (by omega) (fun x hx => by have := HR.out x hx; omega)).mono ?_
      rintro e w5 ⟨r4, rfl, ho4, hb5⟩
      have hrl := red_len (gl xss k)
      go_wp2_with fail
      refine (l05Core_any _ (red (gl xss k)) _ _ (ho4.sl (Nat.le_refl _)) (Nat.le_refl _) (by omega) (fun x hx => by have := HR.out x (red_mem hx); omega)).mono ?_
      rintro e w2 ⟨r5, r6, rfl, ho, hb6⟩
      have hb2 := hb5.trans (hb6.mono hb5.size)
      obtain ⟨⟨A5, c5, rfl⟩, A6, c6, rfl⟩ := two_rows ho
      have s6 : Sl w2 w2.heap.size (.slice A6 (coreB (red (gl xss k))).length c6) (coreR (gl xss k)) := St.rd [ow (.slice A5 (coreA (red (gl xss k))).length c5) (coreA (red (gl xss k)))] [] ho
      have hO2 := hO.below hb2 (Nat.le_refl _)
      have so2 := (hO2.sl hb2.size)
      have hb3 := hb.trans (hb2.mono hsz2)
      have hlD : (coreB (red (gl xss k))).length = (coreR (gl xss k)).length := rfl
      rw [hlD]
      rw [hlD] at s6
      generalize hD : coreR (gl xss k) = D at *
      clear hD ho hlD
      by_cases hd1 : D.length = 1
      · obtain ⟨A7, c7, e7, hl7, hm7, -, hc7⟩ := id s6
        obtain ⟨b7, o7, e8, hb7, hcc7⟩ := hc7 (by omega)
        injection e7 with e7 _ e9
        subst e7 e9 e8
        have q7 : w2.cell? ⟨b7, o7, none⟩ = some (.int .i64 (gi D 0)) := hcc7 0 (by omega)
        have hx := HCM.out _ (gi_mem (show 0 < D.length by omega))
        obtain ⟨x0, x1, x2⟩ := hx
        have hd1b : ((D.length : Int) != 1) = false := by simp; omega
        have hdp : (0 : Int) < D.length := by omega
        have HD1 := Lib.hid hd1
        clear hd1 hc7 hcc7
        by_cases hp : 0 < gi D 0
        · have hpb : decide (gi D 0 < 1) = false := by simp; omega
          cases hh : hasI out (gi D 0 - 1)
          · have HN := Lib.hid (HON.out (by rw [plB, decide_eq_true HD1.out, decide_eq_true hp, hh]; rfl))
            have hO3 := hO2.mono (Nat.le_refl _) hb2.size
            have hsz3 := Nat.le_trans hsz2 hb2.size
            have hl9 : out.length ≤ 1000000000 := by have := HOL.out; omega
            go_wp2_with (first | (go_at_call 88; refine (l00Has_any _ out _ _ _ so2).mono ?_; rintro e w' ⟨rfl, rfl⟩) | (at_builtin; refine wpList_append_one rfl _ _ rfl _ _ _ _ _ (gi D 0 - 1) rfl rfl hO3 hsz3 hl9 ?_; intro v1 w4 hO4 hg4 _))
            have hbw := hO3.grown hg4 (Nat.le_refl _) hsz3
            go_roundw
            case rel => exact ⟨k + 1, _, by omega, by go_num, hO4, by rw [List.length_append, HOL.out]; rfl, HN.out, hb3.trans hbw⟩
            case measure => simp [intOf]; omega
          · have HN := Lib.hid (HOFF.out (by rw [plB, hh]; simp))
            go_wp2_with (go_at_call 88; refine (l00Has_any _ out _ _ _ so2).mono ?_; rintro e w' ⟨rfl, rfl⟩)
            go_ret2
            exact ⟨_, by rw [HN.out]; rfl, by rw [HN.out]; exact Ow.nil _ _ _, hb3⟩
        · have hpb : decide (gi D 0 < 1) = true := by simp; omega
          have HN := Lib.hid (HOFF.out (by rw [plB, decide_eq_false hp]; simp))
          go_wp2_with fail
          go_ret2
          exact ⟨_, by rw [HN.out]; rfl, by rw [HN.out]; exact Ow.nil _ _ _, hb3⟩
      · have hd1b : ((D.length : Int) != 1) = true := by simp; omega
        have HN := Lib.hid (HOFF.out (by rw [plB, decide_eq_false hd1]; rfl))
        go_wp2_with fail
        go_ret2
        exact ⟨_, by rw [HN.out]; rfl, by rw [HN.out]; exact Ow.nil _ _ _, hb3⟩
    · obtain rfl : k = xss.length := by omega
      have HN := Lib.hid (show plGo [] xss = some out by rw [HE.out, List.drop_length]; rfl)
      go_wp2_with fail
      go_ret2
      exact ⟨_, by rw [HN.out]; rfl, by rw [HN.out]; exact hO, hb⟩
def apB (xss : List (List Int)) : Bool := okImgs xss && (plGo [] xss).isSome
def apL (xss : List (List Int)) : List Int := if okImgs xss = true then optL (plGo [] xss) else []
theorem apL_len (xss : List (List Int)) : (apL xss).length ≤ xss.length := by
  unfold apL
  split
  · cases h : plGo [] xss with
    | none => simp [optL]
    | some o => have := plGo_len h; simp [optL] at this ⊢; omega
  · simp
set_option maxHeartbeats 800000 in
theorem impl_ActionPermutation_any (v : Value) (xss : List (List Int)) (B : Nat) (w : World) (h : SlS w B v xss) (hB : B ≤ w.heap.size) :
    Calls Try.prog 21 #[v] w fun e w' => ∃ r, e = .returned (.tuple #[r, .bool (apB xss)]) ∧ Ow w' w.heap.size w'.heap.size r (apL xss) ∧ Below w.heap.size w w' := by
  cases hok : okImgs xss
  · have H1 := Lib.hid (show apB xss = false by simp [apB, hok])
    have H2 := Lib.hid (show apL xss = [] by simp [apL, hok])
    go_enter Try.func21, Try.ntmps21
    go_wp2_with (go_at_call 50; refine (areImages_any _ xss B _ h hB).mono ?_; rintro e w1 ⟨rfl, hb⟩)
    go_ret2
    exact ⟨_, by rw [H1.out]; rfl, by rw [H2.out]; exact Ow.nil _ _ _, hb⟩
  · have H1 := Lib.hid (show apB xss = (plGo [] xss).isSome by simp [apB, hok])
    have H2 := Lib.hid (show apL xss = optL (plGo [] xss) by simp [apL, hok])
    go_enter Try.func21, Try.ntmps21
    go_wp2_with fail
    refine (areImages_any _ xss B _ h hB).mono ?_
    rintro e w1 ⟨rfl, hb⟩
    go_wp2_with fail
    refine (generatorsOf_any _ xss B _ (h.below hb hB) (Nat.le_trans hB hb.size) hok).mono ?_
    rintro e w2 ⟨r2, rfl, ho2, hb2⟩
    go_wp2_with fail
    go_ret2
    exact ⟨_, by rw [H1.out]; rfl, by rw [H2.out]; exact ho2.mono hb.size (Nat.le_refl _), hb.trans (hb2.mono hb.size)⟩
set_option maxHeartbeats 800000 in
theorem spec_ActionPermutation_any (v : Value) (xss : List (List Int)) (B : Nat) (w : World) (h : SlS w B v xss) (hB : B ≤ w.heap.size) :
    Calls Try.prog 20 #[v] w fun e w' => ∃ r, e = .returned (.tuple #[r, .bool (apB xss)]) ∧ Ow w' w.heap.size w'.heap.size r (apL xss) ∧ Below w.heap.size w w' := by
  cases hok : okImgs xss
  · have H1 := Lib.hid (show apB xss = false by simp [apB, hok])
    have H2 := Lib.hid (show apL xss = [] by simp [apL, hok])
    go_enter Try.func20, Try.ntmps20
    go_wp2_with (go_at_call 47; refine (l05Images_any _ xss B _ h).mono ?_; rintro e w1 ⟨rfl, rfl⟩)
    go_ret2
    exact ⟨_, by rw [H1.out]; rfl, by rw [H2.out]; exact Ow.nil _ _ _, Below.refl _ _⟩
  · have H1 := Lib.hid (show apB xss = (plGo [] xss).isSome by simp [apB, hok])
    have H2 := Lib.hid (show apL xss = optL (plGo [] xss) by simp [apL, hok])
    go_enter Try.func20, Try.ntmps20
    go_wp2_with fail
    refine (l05Images_any _ xss B _ h).mono ?_
    rintro e w1 ⟨rfl, rfl⟩
    go_wp2_with fail
    refine (l05Places_any _ xss B _ h hB hok).mono ?_
    rintro e w2 ⟨r2, rfl, ho2, hb2⟩
    go_wp2_with fail
    go_ret2
    exact ⟨_, by rw [H1.out]; rfl, by rw [H2.out]; exact ho2, hb2⟩
end Go.Proofs.Ytcoocjdkppdlmaa
