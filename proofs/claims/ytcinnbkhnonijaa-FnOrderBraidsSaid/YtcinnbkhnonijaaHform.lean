/-
  Contracts: all reductions (the program's handleForm, the reference's l06Form), HandleForm, HandleTrivial, SignOfBraid of both.
-/
import Derived.Test.YtcinnbkhnonijaaHred
namespace Go.Proofs.Ytcinnbkhnonijaa
set_option maxRecDepth 10000
open Go.RowKit

theorem hForm_out {xs : List Int} {b : Int} (h : inR b 0 5000 = false) : hForm xs b = ([], 0, 2) := by simp [hForm, h]
theorem hForm_in {xs : List Int} {b : Nat} (h : b ≤ 5000) : hForm xs (b : Int) = formOf (hLoop b xs) := by
  rw [hForm, if_pos (inR_yes (by omega) (by omega))]; simp
theorem firstT_f {xs : List Int} {t : Nat} (h : firstT xs = some t) : t < xs.length ∧ hFn xs t < t ∧ hF xs = (hFn xs t : Int) ∧ hT xs = (t : Int) ∧ hOk xs = true := by
  obtain ⟨h1, h2, _⟩ := firstT_is h
  have := hTo_bd xs t
  refine ⟨h1, by unfold hFn; omega, ?_, ?_, ?_⟩
  · simp only [hF, h, hFn]; omega
  · simp only [hT, h]
  · simp [hOk, h]
theorem hLoop_id (b : Nat) (xs : List Int) : hLoop b xs = (hLoop (b - 0) xs).map fun p => (p.1, p.2 + 0) := by
  rw [Nat.sub_zero]; cases hLoop b xs <;> rfl
theorem hLoop_next {b n : Nat} {xs ys : List Int} {t : Nat} (h : hLoop b xs = (hLoop (b - n) ys).map fun p => (p.1, p.2 + n)) (hn : n < b) (hf : firstT ys = some t) (h2 : (hRed ys (hFn ys t) t).length ≤ 4000) :
    hLoop b xs = (hLoop (b - (n + 1)) (hRed ys (hFn ys t) t)).map fun p => (p.1, p.2 + (n + 1)) := by
  obtain ⟨m, hm⟩ : ∃ m, b - n = m + 1 := ⟨b - n - 1, by omega⟩
  rw [h, hm, hLoop_on hf h2, show b - (n + 1) = m by omega, Option.map_map]
  congr 1
  funext p
  simp only [Function.comp_apply]
  congr 1
  omega
theorem hLoop_end {b n : Nat} {xs ys : List Int} (h : hLoop b xs = (hLoop (b - n) ys).map fun p => (p.1, p.2 + n)) (hf : firstT ys = none) : formOf (hLoop b xs) = (ys, (n : Int), 0) := by
  rw [h, hLoop_none hf]; simp [formOf]
theorem hLoop_stop {b n : Nat} {xs ys : List Int} {t : Nat} (h : hLoop b xs = (hLoop (b - n) ys).map fun p => (p.1, p.2 + n)) (hf : firstT ys = some t) (hc : b ≤ n ∨ ¬ (hRed ys (hFn ys t) t).length ≤ 4000) : formOf (hLoop b xs) = ([], 0, 5) := by
  rcases hc with hc | hc
  · rw [h, show b - n = 0 by omega, hLoop_zero hf]; rfl
  · rw [h, hLoop_long hf hc]; rfl
theorem firstHandle_some {v : Value} {xs : List Int} {B : Nat} {w : World} {t : Nat} (h : Sl w B v xs) (hB : B ≤ w.heap.size) (hbd : Lt xs) (hf : firstT xs = some t) :
    Calls Try.prog 44 #[v] w fun e w' => e = .returned (.tuple #[.agg #[.int .i64 (hFn xs t : Int), .int .i64 (t : Int)], .bool true]) ∧ Below w.heap.size w w' := by
  obtain ⟨_, _, h3, h4, h5⟩ := firstT_f hf
  have := firstHandle_any v xs B w h hB hbd
  rwa [h3, h4, h5] at this
theorem firstHandle_none {v : Value} {xs : List Int} {B : Nat} {w : World} (h : Sl w B v xs) (hB : B ≤ w.heap.size) (hbd : Lt xs) (hf : firstT xs = none) :
    Calls Try.prog 44 #[v] w fun e w' => e = .returned (.tuple #[.agg #[.int .i64 0, .int .i64 0], .bool false]) ∧ Below w.heap.size w w' := by
  have := firstHandle_any v xs B w h hB hbd
  rwa [show hF xs = 0 by simp only [hF, hf], show hT xs = 0 by simp only [hT, hf], show hOk xs = false by simp [hOk, hf]] at this
theorem l06First_some {v : Value} {xs : List Int} {B : Nat} {w : World} {t : Nat} (h : Sl w B v xs) (hB : B ≤ w.heap.size) (hbd : Lt xs) (hf : firstT xs = some t) :
    Calls Try.prog 38 #[v] w fun e w' => e = .returned (.tuple #[.agg #[.int .i64 (hFn xs t : Int), .int .i64 (t : Int)], .bool true]) ∧ Below w.heap.size w w' := by
  obtain ⟨_, _, h3, h4, h5⟩ := firstT_f hf
  have := l06First_any v xs B w h hB hbd
  rwa [h3, h4, h5] at this
theorem l06First_none {v : Value} {xs : List Int} {B : Nat} {w : World} (h : Sl w B v xs) (hB : B ≤ w.heap.size) (hbd : Lt xs) (hf : firstT xs = none) :
    Calls Try.prog 38 #[v] w fun e w' => e = .returned (.tuple #[.agg #[.int .i64 0, .int .i64 0], .bool false]) ∧ Below w.heap.size w w' := by
  have := l06First_any v xs B w h hB hbd
  rwa [show hF xs = 0 by simp only [hF, hf], show hT xs = 0 by simp only [hT, hf], show hOk xs = false by simp [hOk, hf]] at this
set_option maxHeartbeats 3200000 in
theorem handleForm_any (v : Value) (xs : List Int) (B : Nat) (b : Int) (w : World) (h : Sl w B v xs) (hB : B ≤ w.heap.size) (hbd : Lt xs) (hsz : xs.length ≤ 4000) :
    Calls Try.prog 37 #[v, .int .i64 b] w fun e w' => ∃ r, e = .returned (.tuple #[r, .int .i64 (hForm xs b).2.1, .int .i64 (hForm xs b).2.2]) ∧ Ow w' w.heap.size w'.heap.size r (hForm xs b).1 ∧ Below w.heap.size w w' := by
  obtain ⟨A, c, rfl, -⟩ := id h
  cases hin : inR b 0 5000
  · have HF := Lib.hid (hForm_out (xs := xs) hin)
    go_enter Try.func37, Try.ntmps37
    go_wp2_with (go_at_call 45; refine (within_any _ _ _ _).mono ?_; rintro e w' ⟨rfl, rfl⟩)
    go_ret3
    exact ⟨_, by rw [HF.out]; rfl, by rw [HF.out]; exact Ow.nil _ _ _, Below.refl _ _⟩
  · obtain ⟨b0, b1⟩ := inR_iff.1 hin
    obtain ⟨b, rfl⟩ : ∃ k : Nat, b = k := ⟨b.toNat, by omega⟩
    have HF := Lib.hid (hForm_in (xs := xs) (b := b) (by omega))
    go_enter Try.func37, Try.ntmps37
    go_wp2_with (go_at_call 45; refine (within_any _ _ _ _).mono ?_; rintro e w' ⟨rfl, rfl⟩)
    refine (cloneInts_any _ xs B _ h hB (by omega)).mono ?_
    rintro e w1 ⟨r1, rfl, ho1, hb1⟩
    go_wp2_with fail
    go_loopw [7, 8] (fun o i wr => ∃ (n : Nat) (ys : List Int), n ≤ b ∧ i = .int .i64 n ∧ Ow wr w.heap.size wr.heap.size o ys ∧ Lt ys ∧ ys.length ≤ 4000 ∧ hLoop b xs = (hLoop (b - n) ys).map (fun p => (p.1, p.2 + n)) ∧ Below w.heap.size w wr) (fun _ i _ => b - (intOf i).toNat)
    case atStart => exact ⟨0, xs, Nat.zero_le _, by go_num, ho1, hbd, hsz, hLoop_id _ _, hb1⟩
    case round =>
      obtain ⟨n, ys, hn, rfl, hO, hlt, hlen, hinv, hb⟩ := hrel
      have HI := Lib.hid hinv
      have HB := Lib.hid hlt
      clear hinv hlt
      obtain ⟨A1, c1, rfl, -⟩ := id (hO.sl (Nat.le_refl _))
      have hs := hO.sl (Nat.le_refl _)
      cases hf : firstT ys with
      | none =>
        have HE := Lib.hid (hLoop_end HI.out hf)
        have HN := Lib.hid hf
        clear hf
        go_wp2_with fail
        refine (firstHandle_none hs (Nat.le_refl _) HB.out HN.out).mono ?_
        rintro e w2 ⟨rfl, hb2⟩
        go_wp2_with fail
        go_ret3
        refine ⟨_, by rw [HF.out, HE.out]; rfl, ?_, hb.trans ((hb2.trans ((al1 _ _).mono hb2.size)).mono hb.size)⟩
        rw [HF.out, HE.out]
        exact ((hO.below hb2 (Nat.le_refl _)).mono (Nat.le_refl _) hb2.size).al (Nat.le_refl _) _ |>.mono (Nat.le_refl _) (al1 _ _).size
      | some t =>
        obtain ⟨ht, hft, -⟩ := firstT_f hf
        have HN := Lib.hid hf
        clear hf
        have hrl := hRed_len hft ht
        have HRL := Lib.hid (hRed_lt HB.out hft ht)
        by_cases hnb : n = b
        · have hnbI : ((n : Int) == (b : Int)) = true := by simp [hnb]
          have HE := Lib.hid (hLoop_stop HI.out HN.out (.inl (by omega)))
          clear hnb
          go_wp2_with fail
          refine (firstHandle_some hs (Nat.le_refl _) HB.out HN.out).mono ?_
          rintro e w2 ⟨rfl, hb2⟩
          go_wp2_with fail
          go_ret3
          exact ⟨_, by rw [HF.out, HE.out]; rfl, by rw [HF.out, HE.out]; exact Ow.nil _ _ _, hb.trans ((hb2.trans ((al1 _ _).mono hb2.size)).mono hb.size)⟩
        · have hnbI : ((n : Int) == (b : Int)) = false := by simp; omega
          go_wp2_with fail
          refine (firstHandle_some hs (Nat.le_refl _) HB.out HN.out).mono ?_
          rintro e w2 ⟨rfl, hb2⟩
          have hb3 := (hb2.trans ((al1 w2 (.cells #[.int .i64 (hFn ys t : Int), .int .i64 (t : Int)] 39)).mono hb2.size))
          go_wp2_with fail
          have hsB := hs.below hb3 (Nat.le_refl _)
          have hzB := hb3.size
          have hcc := withoutHandle_any _ ys wr.heap.size (hFn ys t) t _ hsB hzB HB.out hft ht hlen
          refine hcc.mono ?_
          rintro e w3 ⟨r3, rfl, ho3, hb4⟩
          have hb5 := hb.trans ((hb3.trans (hb4.mono hb3.size)).mono hb.size)
          obtain ⟨A3, c3, rfl, -⟩ := id (ho3.sl (Nat.le_refl _))
          by_cases hl3 : (hRed ys (hFn ys t) t).length ≤ 4000
          · have hli : ¬ 4000 < ((hRed ys (hFn ys t) t).length : Int) := by omega
            have HI2 := Lib.hid (hLoop_next HI.out (by omega) HN.out hl3)
            have hsz2 := Nat.le_trans hb.size hb3.size
            go_wp2_with fail
            go_roundw
            case rel => exact ⟨n + 1, _, by omega, by go_num, ho3.mono hsz2 (Nat.le_refl _), HRL.out, hl3, HI2.out, hb5⟩
            case measure => simp [intOf]; omega
          · have hli : 4000 < ((hRed ys (hFn ys t) t).length : Int) := by omega
            have HE := Lib.hid (hLoop_stop HI.out HN.out (.inr hl3))
            go_wp2_with fail
            go_ret3
            exact ⟨_, by rw [HF.out, HE.out]; rfl, by rw [HF.out, HE.out]; exact Ow.nil _ _ _, hb5⟩
end Go.Proofs.Ytcinnbkhnonijaa
