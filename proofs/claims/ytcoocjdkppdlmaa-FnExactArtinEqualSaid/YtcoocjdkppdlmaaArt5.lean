/-
  Contracts: ArtinAction of the reference; the action's bounds.
-/
import Derived.Test.YtcoocjdkppdlmaaArt4
namespace Go.Proofs.Ytcoocjdkppdlmaa
set_option maxRecDepth 10000
open Go.RowKit

theorem okBr_letters {n : Nat} {xs : List Int} (h : okBr n xs = true) : ∀ x ∈ xs, x ≠ 0 ∧ 1 - (n : Int) ≤ x ∧ x ≤ (n : Int) - 1 := letters_mem (okBr_parts h).2.2.2
theorem actGo_len {word ls r : List Int} (h : actGo word ls = some r) (hw : word.length ≤ 20000) : r.length ≤ 20000 := by
  induction ls generalizing word with
  | nil => cases h; exact hw
  | cons l t ih =>
    rw [actGo] at h
    by_cases hh : (actW l word).length ≤ 20000
    · rw [if_pos hh] at h; exact ih h hh
    · rw [if_neg hh] at h; cases h
theorem artUp_lenSS {ls : List Int} {n : Nat} {rows : List (List Int)} (h : artUp ls n = some rows) : lenSS rows ≤ 20000 * n := by
  induction n generalizing rows with
  | zero => cases h; simp [lenSS]
  | succ n ih =>
    cases h1 : artUp ls n with
    | none => rw [artUp_none h1 (Nat.le_succ n)] at h; cases h
    | some r1 =>
      cases h2 : actGo [(n : Int) + 1] ls with
      | none => rw [artUp_off h2] at h; cases h
      | some r2 =>
        rw [artUp_on h1 h2] at h
        cases h
        rw [lenSS_snoc]
        have := ih h1
        have := actGo_len h2 (by simp)
        omega
theorem artA_len (s : Int) (xs : List Int) : (artA s xs).1.length + lenSS (artA s xs).1 ≤ 300000 := by
  unfold artA
  split
  · rename_i h
    obtain ⟨p1, p2, p3, p4⟩ := okBr_parts h
    split
    · cases h1 : artUp xs s.toNat with
      | none => simp [artOf, lenSS]
      | some o =>
        have := artUp_lenSS h1
        have := artUp_len h1
        simp only [artOf]
        omega
    · simp [lenSS]
  · simp [lenSS]
theorem l05Action_yes {n : Nat} {v : Value} {xs : List Int} {pb B : Nat} {w : World} {rows : List (List Int)} (h : Sl w B v xs) (hB : B ≤ w.heap.size) (hp : pb < w.heap.size) (h0 : w.cell? ⟨pb, 0, none⟩ = some (.int .i64 n)) (h1 : w.cell? ⟨pb, 1, none⟩ = some v)
    (hok : okBr n xs = true) (hx16 : xs.length ≤ 16) (hr : artUp xs n = some rows) :
    Calls Try.prog 57 #[.pointer (some ⟨pb, 0, none⟩)] w fun e w' => ∃ r, e = .returned (.tuple #[r, .bool true]) ∧ OwS w' (Iv w.heap.size w'.heap.size) r rows ∧ Below w.heap.size w w' := by
  have := l05Action_any n v xs pb B w h hB hp h0 h1 (by have := okBr_parts hok; omega) hx16 (okBr_letters hok)
  rw [← artUp_eq, hr] at this
  exact this
theorem l05Action_no {n : Nat} {v : Value} {xs : List Int} {pb B : Nat} {w : World} (h : Sl w B v xs) (hB : B ≤ w.heap.size) (hp : pb < w.heap.size) (h0 : w.cell? ⟨pb, 0, none⟩ = some (.int .i64 n)) (h1 : w.cell? ⟨pb, 1, none⟩ = some v)
    (hok : okBr n xs = true) (hx16 : xs.length ≤ 16) (hr : artUp xs n = none) :
    Calls Try.prog 57 #[.pointer (some ⟨pb, 0, none⟩)] w fun e w' => ∃ r, e = .returned (.tuple #[r, .bool false]) ∧ OwS w' (Iv w.heap.size w'.heap.size) r [] ∧ Below w.heap.size w w' := by
  have := l05Action_any n v xs pb B w h hB hp h0 h1 (by have := okBr_parts hok; omega) hx16 (okBr_letters hok)
  rw [← artUp_eq, hr] at this
  exact this
set_option maxHeartbeats 800000 in
theorem spec_ArtinAction_any (s : Int) (v : Value) (xs : List Int) (B : Nat) (w : World) (h : Sl w B v xs) (hB : B ≤ w.heap.size) :
    Calls Try.prog 23 #[.agg #[.int .i64 s, v]] w fun e w' => ∃ r, e = .returned (.tuple #[r, .int .i64 (artA s xs).2]) ∧ OwS w' (Iv w.heap.size w'.heap.size) r (artA s xs).1 ∧ Below w.heap.size w w' := by
  obtain ⟨A, c, rfl, hl, hm, -, -⟩ := id h
  unfold maxLen at hm
  have hA := al1 w (.cells #[.int .i64 s, .slice A xs.length c] 41)
  have hs := h.below hA hB
  have m0 : (w.alloc (.cells #[.int .i64 s, .slice A xs.length c] 41)).cell? ⟨w.heap.size, 0, none⟩ = some (.int .i64 s) := by simp
  have m1 : (w.alloc (.cells #[.int .i64 s, .slice A xs.length c] 41)).cell? ⟨w.heap.size, 1, none⟩ = some (.slice A xs.length c) := by simp
  cases hok : okBr s xs
  · have H1 := Lib.hid (show artA s xs = ([], 1) by simp [artA, hok])
    go_enter Try.func23, Try.ntmps23
    go_wp2_with (go_at_call 56; refine (l03Ok_any _ _ xs B _ _ hs m0 m1).mono ?_; rintro e w' ⟨rfl, n1, rfl⟩)
    go_ret2
    exact ⟨_, by rw [H1.out]; rfl, by rw [H1.out]; exact OwS.nil _ _, below_drewN hA _⟩
  · obtain ⟨p1, p2, p3, p4⟩ := okBr_parts hok
    obtain ⟨n, rfl⟩ : ∃ n : Nat, s = n := ⟨s.toNat, by omega⟩
    by_cases h16 : xs.length ≤ 16
    · have h16b : ¬ 16 < (xs.length : Int) := by omega
      have H1 := Lib.hid (show artA n xs = artOf (artUp xs n) by simp [artA, hok, h16])
      cases hr : artUp xs n with
      | none =>
        have HR := Lib.hid hr
        clear hr
        go_enter Try.func23, Try.ntmps23
        go_wp2_with (go_at_call 56; refine (l03Ok_any _ _ xs B _ _ hs m0 m1).mono ?_; rintro e w' ⟨rfl, n1, rfl⟩)
        refine (l05Action_no (xs := xs) (B := B) (hs.drewN n1) (Nat.le_trans hB hA.size) (by simp) m0 m1 hok h16 HR.out).mono ?_
        rintro e w2 ⟨r, rfl, hO, hb⟩
        go_wp2_with fail
        go_ret2
        exact ⟨_, by rw [H1.out, HR.out]; rfl, by rw [H1.out, HR.out]; exact OwS.nil _ _, (below_drewN hA n1).trans (hb.mono hA.size)⟩
      | some rows =>
        have HR := Lib.hid hr
        clear hr
        go_enter Try.func23, Try.ntmps23
        go_wp2_with (go_at_call 56; refine (l03Ok_any _ _ xs B _ _ hs m0 m1).mono ?_; rintro e w' ⟨rfl, n1, rfl⟩)
        refine (l05Action_yes (xs := xs) (B := B) (hs.drewN n1) (Nat.le_trans hB hA.size) (by simp) m0 m1 hok h16 HR.out).mono ?_
        rintro e w2 ⟨r, rfl, hO, hb⟩
        go_wp2_with fail
        go_ret2
        exact ⟨_, by rw [H1.out, HR.out]; rfl, by rw [H1.out, HR.out]; exact hO.mono fun b hb' => ⟨Nat.le_trans hA.size hb'.1, hb'.2⟩, (below_drewN hA n1).trans (hb.mono hA.size)⟩
    · have h16b : 16 < (xs.length : Int) := by omega
      have H1 := Lib.hid (show artA n xs = ([], 2) by simp [artA, hok, h16])
      go_enter Try.func23, Try.ntmps23
      go_wp2_with (go_at_call 56; refine (l03Ok_any _ _ xs B _ _ hs m0 m1).mono ?_; rintro e w' ⟨rfl, n1, rfl⟩)
      go_ret2
      exact ⟨_, by rw [H1.out]; rfl, by rw [H1.out]; exact OwS.nil _ _, below_drewN hA _⟩
end Go.Proofs.Ytcoocjdkppdlmaa
