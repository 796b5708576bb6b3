/-
  Contract: the images of the generators under a braid (the program's ArtinAction).
-/
import Derived.Test.YtcoocjdkppdlmaaAct2
import Derived.Test.YtcoocjdkppdlmaaSs4
namespace Go.Proofs.Ytcoocjdkppdlmaa
set_option maxRecDepth 10000
open Go.RowKit

/-- A word acted on by letters; nothing if it gets too long. -/
def actGo (word : List Int) : List Int → Option (List Int)
  | [] => some word
  | l :: r => if (actW l word).length ≤ 20000 then actGo (actW l word) r else none
theorem actGo_on {word ls : List Int} {k : Nat} (hk : k < ls.length) (h : (actW (gi ls k) word).length ≤ 20000) : actGo word (ls.drop k) = actGo (actW (gi ls k) word) (ls.drop (k + 1)) := by rw [drop_gi hk, actGo, if_pos h]
theorem actGo_off {word ls : List Int} {k : Nat} (hk : k < ls.length) (h : ¬ (actW (gi ls k) word).length ≤ 20000) : actGo word (ls.drop k) = none := by rw [drop_gi hk, actGo, if_neg h]
/-- The images of the first generators. -/
def artUp (ls : List Int) : Nat → Option (List (List Int))
  | 0 => some []
  | n + 1 => match artUp ls n, actGo [(n : Int) + 1] ls with
    | some rows, some r => some (rows ++ [r])
    | _, _ => none
theorem artUp_on {ls : List Int} {n : Nat} {rows : List (List Int)} {r : List Int} (h : artUp ls n = some rows) (h2 : actGo [(n : Int) + 1] ls = some r) : artUp ls (n + 1) = some (rows ++ [r]) := by simp [artUp, h, h2]
theorem artUp_off {ls : List Int} {n : Nat} (h2 : actGo [(n : Int) + 1] ls = none) : artUp ls (n + 1) = none := by simp only [artUp, h2]; cases artUp ls n <;> rfl
theorem artUp_none {ls : List Int} {n m : Nat} (h : artUp ls n = none) (hm : n ≤ m) : artUp ls m = none := by
  induction m with
  | zero => obtain rfl : n = 0 := by omega
            exact h
  | succ m ih =>
    by_cases hn : n = m + 1
    · rw [← hn]; exact h
    · simp only [artUp, ih (by omega)]
theorem artUp_len {ls : List Int} {n : Nat} {rows : List (List Int)} (h : artUp ls n = some rows) : rows.length = n := by
  induction n generalizing rows with
  | zero => simp [artUp] at h; rw [h]; rfl
  | succ n ih =>
    cases h1 : artUp ls n with
    | none => rw [artUp_none h1 (Nat.le_succ n)] at h; cases h
    | some r1 =>
      cases h2 : actGo [(n : Int) + 1] ls with
      | none => rw [artUp_off h2] at h; cases h
      | some r2 => rw [artUp_on h1 h2] at h; cases h; simp [ih h1]
def artOf (r : Option (List (List Int))) : List (List Int) × Int := match r with | none => ([], 5) | some o => (o, 0)
def artA (s : Int) (xs : List Int) : List (List Int) × Int := if okBr s xs = true then (if xs.length ≤ 16 then artOf (artUp xs s.toNat) else ([], 2)) else ([], 1)
theorem ow_lit1 (w : World) (a : Int) : Ow (w.alloc (.cells #[.int .i64 a] 2)) w.heap.size (w.alloc (.cells #[.int .i64 a] 2)).heap.size (.slice (some ⟨w.heap.size, 0, none⟩) 1 1) [a] :=
  ⟨⟨by simp [vals], .inr ⟨w.heap.size, 1, #[.int .i64 a], rfl, Nat.le_refl _, alloc_at_ _ _, Nat.le_refl _, by simp [maxLen], rfl, rfl⟩⟩, fun g hg => by simp [Value.ownBlock] at hg; subst hg; rw [World.size_alloc]; exact Nat.lt_succ_self _⟩
set_option maxHeartbeats 3200000 in
theorem impl_ArtinAction_any (s : Int) (v : Value) (xs : List Int) (B : Nat) (w : World) (h : Sl w B v xs) (hB : B ≤ w.heap.size) :
    Calls Try.prog 25 #[.agg #[.int .i64 s, v]] w fun e w' => ∃ r, e = .returned (.tuple #[r, .int .i64 (artA s xs).2]) ∧ OwS w' (Iv w.heap.size w'.heap.size) r (artA s xs).1 ∧ Below w.heap.size w w' := by
  obtain ⟨A, c, rfl, hl, hm, -, hcells⟩ := id h
  unfold maxLen at hm
  have HC := Lib.hid hcells
  have hA := al1 w (.cells #[.int .i64 s, .slice A xs.length c] 41)
  have hs := h.below hA hB
  clear hcells
  cases hok : okBr s xs
  · have H1 := Lib.hid (show artA s xs = ([], 1) by simp [artA, hok])
    go_enter Try.func25, Try.ntmps25
    go_wp2_with (go_at_call 58; refine (impl_ValidBraid_any _ _ xs B _ hs (Nat.le_trans hB hA.size)).mono ?_; rintro e w' ⟨rfl, hb⟩; obtain ⟨hc, hf⟩ := bcell hb)
    go_ret2
    exact ⟨_, by rw [H1.out]; rfl, by rw [H1.out]; exact OwS.nil _ _, hA.trans (hb.mono hA.size)⟩
  · obtain ⟨p1, p2, p3, p4⟩ := okBr_parts hok
    obtain ⟨n, rfl⟩ : ∃ n : Nat, s = n := ⟨s.toNat, by omega⟩
    have HL := Lib.hid (okBr_mem hok)
    by_cases h16 : xs.length ≤ 16
    · have h16b : ¬ 16 < (xs.length : Int) := by omega
      have H1 := Lib.hid (show artA n xs = artOf (artUp xs n) by simp [artA, hok, h16])
      go_enter Try.func25, Try.ntmps25
      go_wp2_with fail
      refine (impl_ValidBraid_any _ _ xs B _ hs (Nat.le_trans hB hA.size)).mono ?_
      rintro e w1 ⟨rfl, hb⟩
      obtain ⟨hc, hf⟩ := bcell hb
      have hz1 : w.heap.size < w1.heap.size := by have := hb.size; simp at this; omega
      have hb1 := hA.trans (hb.mono hA.size)
      have m1 : w1.cell? ⟨w.heap.size, 1, none⟩ = some (.slice A xs.length c) := by rw [hc _ _ (by simp)]; simp
      have m0 : w1.cell? ⟨w.heap.size, 0, none⟩ = some (.int .i64 n) := by rw [hc _ _ (by simp)]; simp
      have hO := OwS.empty w1
      have ha := al1 w1 (.cells #[] 23)
      clear hc hf
      go_wp2_with fail
      go_loopw [4, 19] (fun o i wr => ∃ (k : Nat) (rows : List (List Int)), k ≤ n ∧ i = .int .i64 k ∧ OwS wr (Iv w1.heap.size wr.heap.size) o rows ∧ artUp xs k = some rows ∧ Below w1.heap.size w1 wr) (fun _ i _ => n - (intOf i).toNat)
      case atStart => exact ⟨0, [], Nat.zero_le _, rfl, hO, rfl, ha⟩
      case round =>
        obtain ⟨k, rows, hk, rfl, hO, he, hb2⟩ := hrel
        obtain ⟨w3, hw3⟩ : ∃ x, x = wr := ⟨_, rfl⟩
        subst hw3
        have HE := Lib.hid he
        have hrl := artUp_len he
        have hb3 := hb1.trans (hb2.mono hb1.size)
        have hz2 : w.heap.size < w3.heap.size := Nat.lt_of_lt_of_le hz1 hb2.size
        have m2 : w3.cell? ⟨w.heap.size, 1, none⟩ = some (.slice A xs.length c) := by rw [hb2.cell hz1]; exact m1
        clear he
        by_cases hlt : k < n
        · have hltI : (k : Int) < n := by omega
          have hO1 := ow_lit1 w3 ((k : Int) + 1)
          have ha1 := al1 w3 (.cells #[.int .i64 ((k : Int) + 1)] 2)
          go_wp2_with fail
          go_loopw [6, 28] (fun u i wr => ∃ (j : Nat) (word : List Int), j ≤ xs.length ∧ i = .int .i64 j ∧ Ow wr w3.heap.size wr.heap.size u word ∧ word.length ≤ 20000 ∧ (∀ x ∈ word, -12 ≤ x ∧ x ≤ 12) ∧ actGo [(k : Int) + 1] xs = actGo word (xs.drop j) ∧ Below w3.heap.size w3 wr) (fun _ i _ => xs.length - (intOf i).toNat)
          case atStart => exact ⟨0, [(k : Int) + 1], Nat.zero_le _, rfl, hO1, by simp, by simp; omega, rfl, ha1⟩
          case round =>
            obtain ⟨j, word, hj, rfl, hu, hwl, hwb, hae, hb4⟩ := hrel
            have HAE := Lib.hid hae
            have HWB := Lib.hid hwb
            have hb5 := hb3.trans (hb4.mono hb3.size)
            clear hae hwb
            by_cases hjl : j < xs.length
            · obtain ⟨b, off, rfl, hbB, hcell⟩ := HC.out (by omega)
              have q1 : wr.cell? ⟨b, off + j, none⟩ = some (.int .i64 (gi xs j)) := by rw [hb5.cell (by simp only; omega)]; exact hcell j hjl
              obtain ⟨x0, x1, x2⟩ := HL.out _ (gi_mem hjl)
              have hsz4 := hb4.size
              clear hcell
              go_wp2_with fail
              refine (acted_any _ word (gi xs j) wr.heap.size _ (hu.sl (Nat.le_refl _)) (Nat.le_refl _) hwl HWB.out x1 x2).mono ?_
              rintro e w5 ⟨r5, rfl, ho5, hb6⟩
              obtain ⟨A5, c5, rfl, -⟩ := id (ho5.sl (Nat.le_refl _))
              have HWB2 := Lib.hid (actW_bd x1 x2 HWB.out)
              by_cases hlo : (actW (gi xs j) word).length ≤ 20000
              · have hli : ¬ 20000 < ((actW (gi xs j) word).length : Int) := by omega
                have HN := Lib.hid (HAE.out.trans (actGo_on hjl hlo))
                go_wp2_with fail
                go_roundw
                case rel => exact ⟨j + 1, _, by omega, by go_num, ho5.mono hsz4 (Nat.le_refl _), hlo, HWB2.out, HN.out, hb4.trans (hb6.mono hsz4)⟩
                case measure => simp [intOf]; omega
              · have hli : 20000 < ((actW (gi xs j) word).length : Int) := by omega
                have HN := Lib.hid (artUp_none (artUp_off (HAE.out.trans (actGo_off hjl hlo))) (show k + 1 ≤ n by omega))
                go_wp2_with fail
                go_ret2
                exact ⟨_, by rw [H1.out, HN.out]; rfl, by rw [H1.out, HN.out]; exact OwS.nil _ _, hb5.trans (hb6.mono hb5.size)⟩
            · obtain rfl : j = xs.length := by omega
              have HN := Lib.hid (artUp_on HE.out (show actGo [(k : Int) + 1] xs = some word by rw [HAE.out, List.drop_length]; rfl))
              obtain ⟨A6, c6, rfl, -⟩ := id (hu.sl (Nat.le_refl _))
              have hO4 := hO.below hb4 (Nat.le_refl _)
              have hsz5 := hb2.size
              have hsz6 := hb4.size
              go_wp2_with (at_builtin; refine wpList_append_row rfl _ _ rfl _ _ _ _ _ _ _ rfl rfl hO4 hu hsz5 hsz6 (by omega) ?_; intro v1 w6 hO6 hb7)
              go_roundw
              case rel => exact ⟨k + 1, _, by omega, by go_num, hO6, HN.out, (hb2.trans (hb4.mono hsz5)).trans hb7⟩
              case measure => simp [intOf]; omega
        · obtain rfl : k = n := by omega
          go_wp2_with fail
          go_ret2
          exact ⟨_, by rw [H1.out, HE.out]; rfl, by rw [H1.out, HE.out]; exact hO.mono fun b hb' => ⟨Nat.le_trans hb1.size hb'.1, hb'.2⟩, hb3⟩
    · have h16b : 16 < (xs.length : Int) := by omega
      have H1 := Lib.hid (show artA n xs = ([], 2) by simp [artA, hok, h16])
      go_enter Try.func25, Try.ntmps25
      go_wp2_with fail
      refine (impl_ValidBraid_any _ _ xs B _ hs (Nat.le_trans hB hA.size)).mono ?_
      rintro e w1 ⟨rfl, hb⟩
      obtain ⟨hc, hf⟩ := bcell hb
      have hz1 : w.heap.size < w1.heap.size := by have := hb.size; simp at this; omega
      go_wp2_with fail
      go_ret2
      exact ⟨_, by rw [H1.out]; rfl, by rw [H1.out]; exact OwS.nil _ _, hA.trans (hb.mono hA.size)⟩
end Go.Proofs.Ytcoocjdkppdlmaa
