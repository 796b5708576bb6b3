/-
  Contracts: HandleForm, HandleTrivial, SignOfBraid of the program and of the reference.
-/
import Derived.Test.YtcinnbkhnonijaaHform
namespace Go.Proofs.Ytcinnbkhnonijaa
set_option maxRecDepth 10000
open Go.RowKit

theorem hLoop_lt {b : Nat} {xs : List Int} {p : List Int × Nat} (h : hLoop b xs = some p) (hl : Lt xs) : Lt p.1 := by
  induction b generalizing xs p with
  | zero =>
    cases hf : firstT xs with
    | none => rw [hLoop_none hf] at h; cases h; exact hl
    | some t => rw [hLoop_zero hf] at h; cases h
  | succ b ih =>
    cases hf : firstT xs with
    | none => rw [hLoop_none hf] at h; cases h; exact hl
    | some t =>
      obtain ⟨ht, hft, -⟩ := firstT_f hf
      by_cases h2 : (hRed xs (hFn xs t) t).length ≤ 4000
      · rw [hLoop_on hf h2] at h
        cases hq : hLoop b (hRed xs (hFn xs t) t) with
        | none => rw [hq] at h; cases h
        | some q => rw [hq] at h; cases h; exact ih (p := q) hq (hRed_lt hl hft ht)
      · rw [hLoop_long hf h2] at h; cases h
theorem hForm_lt {xs : List Int} {b : Int} (h : Lt xs) : Lt (hForm xs b).1 := by
  unfold hForm
  split
  · cases hq : hLoop b.toNat xs with
    | none => intro x hx; simp [formOf] at hx
    | some p => exact hLoop_lt hq h
  · intro x hx; simp at hx
/-- What HandleForm returns. -/
def hfA (s : Int) (xs : List Int) (b : Int) : List Int × Int × Int := if okBr s xs = true then hForm xs b else ([], 0, 1)
theorem hfA_no {s : Int} {xs : List Int} {b : Int} (h : okBr s xs = false) : hfA s xs b = ([], 0, 1) := by simp [hfA, h]
theorem hfA_yes {s : Int} {xs : List Int} {b : Int} (h : okBr s xs = true) : hfA s xs b = hForm xs b := by simp [hfA, h]
theorem hfA_len (s : Int) (xs : List Int) (b : Int) : (hfA s xs b).1.length ≤ 4000 := by
  cases h : okBr s xs
  · rw [hfA_no h]; simp
  · rw [hfA_yes h]; exact hForm_len _ _ (by have := (okBr_parts h).2.2.1; omega)
theorem hfA_lt (s : Int) (xs : List Int) (b : Int) : Lt (hfA s xs b).1 := by
  cases h : okBr s xs
  · rw [hfA_no h]; intro x hx; simp at hx
  · rw [hfA_yes h]; exact hForm_lt (okBr_mem h)
theorem okBr_lt {s : Int} {xs : List Int} (h : okBr s xs = true) : Lt xs := okBr_mem h
theorem formOf_c (r : Option (List Int × Nat)) : (formOf r).2.2 = 0 ∨ (formOf r).2.2 = 5 ∧ (formOf r).1 = [] := by cases r <;> simp [formOf]
theorem hForm_c (xs : List Int) (b : Int) : (hForm xs b).2.2 = 0 ∨ (0 < (hForm xs b).2.2 ∧ (hForm xs b).2.2 ≤ 12) ∧ (hForm xs b).1 = [] := by
  unfold hForm
  split
  · rcases formOf_c (hLoop b.toNat xs) with h | ⟨h, h2⟩
    · exact .inl h
    · exact .inr ⟨by omega, h2⟩
  · simp
theorem hfA_c (s : Int) (xs : List Int) (b : Int) : (hfA s xs b).2.2 = 0 ∨ (0 < (hfA s xs b).2.2 ∧ (hfA s xs b).2.2 ≤ 12) ∧ (hfA s xs b).1 = [] := by
  cases h : okBr s xs
  · rw [hfA_no h]; simp
  · rw [hfA_yes h]; exact hForm_c _ _
/-- The sign of a word without handles. -/
def sgn (xs : List Int) : Int := if 0 < mainV xs then 1 else if mainV xs < 0 then -1 else 0
theorem sgn_nil : sgn [] = 0 := rfl
theorem mainV_lt {xs : List Int} (h : Lt xs) : -11 ≤ mainV xs ∧ mainV xs ≤ 11 ∧ (pureL xs = true → mainV xs ≠ 0) := by
  rcases mainL_min (p := xs) (fun x hx => (h x hx).1) with ⟨h1, h2⟩ | ⟨h1, h2, _⟩
  · subst h1; simp [mainV, pureL]
  · have := h _ h2
    unfold mainV
    split
    · exact ⟨this.2.1, this.2.2, fun _ => h1⟩
    · rename_i hp; exact ⟨by omega, by omega, fun h => absurd h hp⟩
set_option maxHeartbeats 1600000 in
theorem impl_HandleForm_any (s : Int) (v : Value) (xs : List Int) (b : Int) (B : Nat) (w : World) (h : Sl w B v xs) (hB : B ≤ w.heap.size) :
    Calls Try.prog 12 #[.agg #[.int .i64 s, v], .int .i64 b] w fun e w' => ∃ r, e = .returned (.tuple #[r, .int .i64 (hfA s xs b).2.1, .int .i64 (hfA s xs b).2.2]) ∧ Ow w' w.heap.size w'.heap.size r (hfA s xs b).1 ∧ Below w.heap.size w w' := by
  obtain ⟨A, c, rfl, hl, hm, -⟩ := id h
  unfold maxLen at hm
  have hA := al1 w (.cells #[.int .i64 s, .slice A xs.length c] 26)
  have hs := h.below hA hB
  cases hok : okBr s xs
  · have H1 := Lib.hid (hfA_no (b := b) hok)
    go_enter Try.func12, Try.ntmps12
    go_wp2_with (go_at_call 28; refine (impl_ValidBraid_any _ _ xs B _ hs (Nat.le_trans hB hA.size)).mono ?_; rintro e w' ⟨rfl, hb⟩; obtain ⟨hc, hf⟩ := bcell hb)
    go_ret3
    exact ⟨_, by rw [H1.out]; rfl, by rw [H1.out]; exact Ow.nil _ _ _, hA.trans (hb.mono hA.size)⟩
  · have H1 := Lib.hid (hfA_yes (b := b) hok)
    have HL := Lib.hid (okBr_lt hok)
    have hln := (okBr_parts hok).2.2.1
    go_enter Try.func12, Try.ntmps12
    go_wp2_with fail
    refine (impl_ValidBraid_any _ _ xs B _ hs (Nat.le_trans hB hA.size)).mono ?_
    rintro e w1 ⟨rfl, hb⟩
    obtain ⟨hc, hf⟩ := bcell hb
    have hz1 : w.heap.size < w1.heap.size := by have := hb.size; simp at this; omega
    have hb0 := hA.trans (hb.mono hA.size)
    go_wp2_with fail
    refine (handleForm_any _ xs B b _ (h.below hb0 hB) (Nat.le_trans hB hb0.size) HL.out (by omega)).mono ?_
    rintro e w2 ⟨r2, rfl, ho2, hb2⟩
    go_wp2_with fail
    go_ret3
    exact ⟨_, by rw [H1.out]; rfl, by rw [H1.out]; exact ho2.mono hb0.size (Nat.le_refl _), hb0.trans (hb2.mono hb0.size)⟩
def trivB (f : List Int × Int × Int) : Bool := f.2.2 == 0 && (f.1.length : Int) == 0
set_option maxHeartbeats 1600000 in
theorem impl_HandleTrivial_any (s : Int) (v : Value) (xs : List Int) (b : Int) (B : Nat) (w : World) (h : Sl w B v xs) (hB : B ≤ w.heap.size) :
    Calls Try.prog 13 #[.agg #[.int .i64 s, v], .int .i64 b] w fun e w' => e = .returned (.tuple #[.bool (trivB (hfA s xs b)), .int .i64 (hfA s xs b).2.2]) ∧ Below w.heap.size w w' := by
  obtain ⟨A, c, rfl, hl, hm, -⟩ := id h
  have hA := al1 w (.cells #[.int .i64 s, .slice A xs.length c] 26)
  have hs := h.below hA hB
  cases h1 : (hfA s xs b).2.2 == 0 <;> cases h2 : ((hfA s xs b).1.length : Int) == 0
  all_goals
    have HT := Lib.hid (show trivB (hfA s xs b) = _ by rw [trivB, h1, h2])
    go_enter Try.func13, Try.ntmps13
    go_wp2_with fail
    refine (impl_HandleForm_any _ _ xs b B _ hs (Nat.le_trans hB hA.size)).mono ?_
    rintro e w1 ⟨r1, rfl, ho1, hb1⟩
    obtain ⟨A1, c1, rfl, -⟩ := id (ho1.sl (Nat.le_refl _))
    go_wp2_with fail
    go_ret2
    exact ⟨by rw [HT.out]; rfl, hA.trans (hb1.mono hA.size)⟩
set_option maxHeartbeats 1600000 in
theorem signOf_any (v : Value) (xs : List Int) (B : Nat) (w : World) (h : Sl w B v xs) (hbd : Lt xs) :
    Calls Try.prog 49 #[v] w fun e w' => e = .returned (.int .i64 (sgn xs)) ∧ w = w' := by
  obtain ⟨m1, m2, m3⟩ := mainV_lt hbd
  cases hp : pureL xs
  · have HS := Lib.hid (show sgn xs = 0 by simp [sgn, mainV, hp])
    go_enter Try.func49, Try.ntmps49
    go_wp2_with (go_at_call 47; refine (mainLetter_any _ xs B _ h hbd).mono ?_; rintro e w' ⟨rfl, rfl⟩)
    go_ret
    exact ⟨ret_int HS.out.symm, rfl⟩
  · have m0 := m3 hp
    have hd : (mainV xs).tdiv (ab (mainV xs)) = sgn xs := by
      rw [tdiv_ab m0, sg, sgn]
      split
      · rfl
      · rw [if_pos (by omega)]
    have hab := ab_pos m0
    have hgz : (ab (mainV xs) == 0) = false := by simp; omega
    have hs1 : -1 ≤ sgn xs ∧ sgn xs ≤ 1 := by unfold sgn; split <;> (try split) <;> omega
    go_enter Try.func49, Try.ntmps49
    go_wp2_with (first | (go_at_call 47; refine (mainLetter_any _ xs B _ h hbd).mono ?_; rintro e w' ⟨rfl, rfl⟩) | (go_at_call 64; refine (size_any _ _ (by omega) (by omega)).mono ?_; rintro e w' ⟨rfl, rfl⟩))
    go_ret
    exact ⟨rfl, rfl⟩
set_option maxHeartbeats 1600000 in
theorem impl_SignOfBraid_any (s : Int) (v : Value) (xs : List Int) (b : Int) (B : Nat) (w : World) (h : Sl w B v xs) (hB : B ≤ w.heap.size) :
    Calls Try.prog 25 #[.agg #[.int .i64 s, v], .int .i64 b] w fun e w' => e = .returned (.tuple #[.int .i64 (sgn (hfA s xs b).1), .int .i64 (hfA s xs b).2.2]) ∧ Below w.heap.size w w' := by
  obtain ⟨A, c, rfl, hl, hm, -⟩ := id h
  have hA := al1 w (.cells #[.int .i64 s, .slice A xs.length c] 26)
  have hs := h.below hA hB
  have HL := Lib.hid (hfA_lt s xs b)
  rcases hfA_c s xs b with hc | ⟨⟨hc1, hc2⟩, he⟩
  · have hcb : ((hfA s xs b).2.2 != 0) = false := by simp [hc]
    have HC := Lib.hid hc
    clear hc
    go_enter Try.func25, Try.ntmps25
    go_wp2_with fail
    refine (impl_HandleForm_any _ _ xs b B _ hs (Nat.le_trans hB hA.size)).mono ?_
    rintro e w1 ⟨r1, rfl, ho1, hb1⟩
    obtain ⟨A1, c1, rfl, -⟩ := id (ho1.sl (Nat.le_refl _))
    go_wp2_with fail
    refine (signOf_any _ _ _ _ (ho1.sl (Nat.le_refl _)) HL.out).mono ?_
    rintro e w2 ⟨rfl, rfl⟩
    go_wp2_with fail
    go_ret2
    exact ⟨by rw [HC.out]; rfl, hA.trans (hb1.mono hA.size)⟩
  · have hcb : ((hfA s xs b).2.2 != 0) = true := by simp; omega
    have HE := Lib.hid (show sgn (hfA s xs b).1 = 0 by rw [he]; rfl)
    clear he
    go_enter Try.func25, Try.ntmps25
    go_wp2_with fail
    refine (impl_HandleForm_any _ _ xs b B _ hs (Nat.le_trans hB hA.size)).mono ?_
    rintro e w1 ⟨r1, rfl, ho1, hb1⟩
    go_wp2_with fail
    go_ret2
    exact ⟨by rw [HE.out]; rfl, hA.trans (hb1.mono hA.size)⟩
end Go.Proofs.Ytcinnbkhnonijaa
