/-
  Contracts: images and their application to a word (the program's areImages and ApplyAction).
-/
import Derived.Test.YtcoocjdkppdlmaaAct
import Derived.Test.YtcoocjdkppdlmaaSs
namespace Go.Proofs.Ytcoocjdkppdlmaa
set_option maxRecDepth 10000
open Go.RowKit

/-- Are the rows words in n generators? -/
def rowsOk (n : Int) (xss : List (List Int)) : Bool := xss.all fun xs => okFree n xs
def okImgs (xss : List (List Int)) : Bool := inR xss.length 0 12 && rowsOk xss.length xss
theorem rowsOk_iff {n : Int} {xss : List (List Int)} : rowsOk n xss = true ↔ ∀ j, j < xss.length → okFree n (gl xss j) = true := by
  simp only [rowsOk, List.all_eq_true]
  constructor
  · intro h j hj
    exact h _ (gl_mem hj)
  · intro h x hx
    obtain ⟨j, hj, rfl⟩ := List.getElem_of_mem hx
    rw [← gl_eq hj]
    exact h j hj
theorem rowsOk_false {n : Int} {xss : List (List Int)} {j : Nat} (hj : j < xss.length) (h : okFree n (gl xss j) = false) : rowsOk n xss = false := by
  rw [← Bool.not_eq_true]
  intro h'
  rw [rowsOk_iff.1 h' j hj] at h
  cases h
theorem okImgs_parts {xss : List (List Int)} (h : okImgs xss = true) : xss.length ≤ 12 ∧ ∀ j, j < xss.length → okFree xss.length (gl xss j) = true := by
  simp only [okImgs, Bool.and_eq_true] at h
  have := inR_iff.1 h.1
  exact ⟨by omega, rowsOk_iff.1 h.2⟩
set_option maxHeartbeats 400000 in
theorem areImages1_any (v : Value) (xs : List Int) (B : Nat) (n : Int) (p : Addr) (w : World) (h : Sl w B v xs) (hB : B ≤ w.heap.size) (hc : w.cell? p = some (.int .i64 n)) :
    Calls Try.prog 85 #[v, .pointer (some p)] w fun e w' => e = .returned (.bool (!okFree n xs)) ∧ Below w.heap.size w w' := by
  go_enter Try.func85, Try.ntmps85
  go_wp2_with (go_at_call 51; refine (impl_ValidFree_any _ xs B _ _ h hB).mono ?_; rintro e w' ⟨rfl, hb⟩)
  go_ret
  exact ⟨rfl, hb⟩
set_option maxHeartbeats 800000 in
theorem indexImages_any (v : Value) (xss : List (List Int)) (B : Nat) (n : Int) (p : Addr) (w : World) (h : SlS w B v xss) (hB : B ≤ w.heap.size) (hc : w.cell? p = some (.int .i64 n)) :
    Calls Try.prog 103 #[v, .func (.func 85) #[] #[.pointer (some p)]] w fun e w' =>
      (∃ r : Int, e = .returned (.int .i64 r) ∧ -1 ≤ r ∧ rowsOk n xss = decide (r < 0)) ∧ Below w.heap.size w w' := by
  obtain ⟨A, c, rfl, hl, hm, _, hcells⟩ := h
  unfold maxLen at hm
  have HC := Lib.hid hcells
  have hpl := block_lt_of_cell hc
  clear hcells
  go_enter Try.func103, Try.ntmps103
  go_wp2
  go_loopw [8] (fun i wr => ∃ k : Nat, k ≤ xss.length ∧ i = .int .i64 k ∧ (∀ j, j < k → okFree n (gl xss j) = true) ∧ Below w.heap.size w wr) (fun i _ => xss.length - (intOf i).toNat)
  case atStart => exact ⟨0, Nat.zero_le _, rfl, fun j hj => absurd hj (Nat.not_lt_zero _), Below.refl _ _⟩
  case round =>
    obtain ⟨k, hk, rfl, hgood, hb⟩ := hrel
    have HG := Lib.hid hgood
    clear hgood
    by_cases hlt : k < xss.length
    · obtain ⟨b, off, rfl, hbB, hcell⟩ := HC.out (by omega)
      obtain ⟨u, q0, s0⟩ := hcell k hlt
      have q1 : wr.cell? ⟨b, off + k, none⟩ = some u := by rw [hb.cell (by simp only; omega)]; exact q0
      have s1 := s0.below hb hB
      have hc1 : wr.cell? p = some (.int .i64 n) := by rw [hb.cell hpl]; exact hc
      clear hcell q0 s0
      cases hok : okFree n (gl xss k)
      · have HF := Lib.hid (rowsOk_false hlt hok)
        go_wp2_with (go_at_call 85; refine (areImages1_any _ _ B n p _ s1 (Nat.le_trans hB hb.size) hc1).mono ?_; rintro e w2 ⟨rfl, hb2⟩)
        go_ret
        exact ⟨⟨k, rfl, by omega, by rw [HF.out]; simp⟩, hb.trans (hb2.mono hb.size)⟩
      · go_wp2_with (go_at_call 85; refine (areImages1_any _ _ B n p _ s1 (Nat.le_trans hB hb.size) hc1).mono ?_; rintro e w2 ⟨rfl, hb2⟩)
        go_roundw
        case rel =>
          refine ⟨k + 1, by omega, by go_num, fun j hj => ?_, hb.trans (hb2.mono hb.size)⟩
          by_cases hjk : j < k
          · exact HG.out j hjk
          · obtain rfl : j = k := by omega
            exact hok
        case measure => simp [intOf]; omega
    · go_wp2
      go_ret
      exact ⟨⟨-1, rfl, by omega, by rw [rowsOk_iff.2 fun j hj => HG.out j (by omega)]; simp⟩, hb⟩
set_option maxHeartbeats 400000 in
theorem containsImages_any (v : Value) (xss : List (List Int)) (B : Nat) (n : Int) (p : Addr) (w : World) (h : SlS w B v xss) (hB : B ≤ w.heap.size) (hc : w.cell? p = some (.int .i64 n)) :
    Calls Try.prog 84 #[v, .func (.func 85) #[] #[.pointer (some p)]] w fun e w' => e = .returned (.bool (!rowsOk n xss)) ∧ Below w.heap.size w w' := by
  go_enter Try.func84, Try.ntmps84
  go_wp2_with (go_at_call 103; refine (indexImages_any _ xss B n p _ h hB hc).mono ?_; rintro e w' ⟨⟨r, rfl, hr, hlet⟩, hb⟩; have HL := Lib.hid hlet; clear hlet)
  go_ret
  refine ⟨ret_bool ?_, hb⟩
  rw [HL.out]
  by_cases hr0 : r < 0 <;> simp [hr0]
  omega
set_option maxHeartbeats 400000 in
theorem areImages_any (v : Value) (xss : List (List Int)) (B : Nat) (w : World) (h : SlS w B v xss) (hB : B ≤ w.heap.size) :
    Calls Try.prog 50 #[v] w fun e w' => e = .returned (.bool (okImgs xss)) ∧ Below w.heap.size w w' := by
  obtain ⟨A, c, rfl, hl, hm, -⟩ := id h
  unfold maxLen at hm
  have ha := al1 w (.cells #[.int .i64 xss.length] 2)
  have h' := h.below ha hB
  cases hin : inR (xss.length : Int) 0 12
  · have HE := Lib.hid (show okImgs xss = false by simp [okImgs, hin])
    go_enter Try.func50, Try.ntmps50
    go_wp2_with (go_at_call 77; refine (isStrands_any _ _).mono ?_; rintro e w' ⟨rfl, rfl⟩)
    go_ret
    exact ⟨ret_bool HE.out.symm, ha⟩
  · have HE := Lib.hid (show okImgs xss = rowsOk xss.length xss by simp [okImgs, hin])
    go_enter Try.func50, Try.ntmps50
    go_wp2_with (first | (go_at_call 77; refine (isStrands_any _ _).mono ?_; rintro e w' ⟨rfl, rfl⟩) | (go_at_call 84; refine (containsImages_any _ xss B xss.length _ _ h' (Nat.le_trans hB ha.size) (by simp)).mono ?_; rintro e w' ⟨rfl, hb⟩))
    go_ret
    exact ⟨ret_bool (by rw [HE.out]), ha.trans (hb.mono ha.size)⟩
/-- The image of a letter under images. -/
def imgA (xss : List (List Int)) (g : Int) : List Int := if 0 < g then gl xss (ab g - 1).toNat else inv (gl xss (ab g - 1).toNat)
/-- A word applied to, letter by letter; nothing if it gets too long. -/
def appGo (xss : List (List Int)) (out : List Int) : List Int → Option (List Int)
  | [] => some out
  | g :: r => if (pushAll out (imgA xss g)).length ≤ 20000 then appGo xss (pushAll out (imgA xss g)) r else none
def appOf (r : Option (List Int)) : List Int × Int := match r with | none => ([], 5) | some o => (o, 0)
def appA (xss : List (List Int)) (ys : List Int) : List Int × Int := if okImgs xss = true ∧ okFree xss.length ys = true then appOf (appGo xss [] ys) else ([], 1)
theorem appGo_len {xss : List (List Int)} {out ys o : List Int} (h : appGo xss out ys = some o) (hl : out.length ≤ 20000) : o.length ≤ 20000 := by
  induction ys generalizing out with
  | nil => simp [appGo] at h; rw [← h]; exact hl
  | cons g r ih =>
    rw [appGo] at h
    split at h
    · rename_i h2; exact ih h h2
    · cases h
theorem appA_len (xss : List (List Int)) (ys : List Int) : (appA xss ys).1.length ≤ 20000 := by
  unfold appA
  split
  · cases h : appGo xss [] ys with
    | none => simp [appOf]
    | some o => exact appGo_len h (by simp)
  · simp
theorem appGo_on {xss : List (List Int)} {out ys : List Int} {k : Nat} (hk : k < ys.length) (h : (pushAll out (imgA xss (gi ys k))).length ≤ 20000) :
    appGo xss out (ys.drop k) = appGo xss (pushAll out (imgA xss (gi ys k))) (ys.drop (k + 1)) := by rw [drop_gi hk, appGo, if_pos h]
theorem appGo_off {xss : List (List Int)} {out ys : List Int} {k : Nat} (hk : k < ys.length) (h : ¬ (pushAll out (imgA xss (gi ys k))).length ≤ 20000) :
    appGo xss out (ys.drop k) = none := by rw [drop_gi hk, appGo, if_neg h]
theorem imgA_if (xss : List (List Int)) (g : Int) : imgA xss g = if decide (0 < g) = true then gl xss (ab g - 1).toNat else inv (gl xss (ab g - 1).toNat) := by
  unfold imgA; by_cases h : 0 < g <;> simp [h]
theorem imgs_row {xss : List (List Int)} (h : okImgs xss = true) {j : Nat} (hj : j < xss.length) : (gl xss j).length ≤ 20000 ∧ ∀ x ∈ gl xss j, x ≠ 0 ∧ -12 ≤ x ∧ x ≤ 12 := by
  have := (okImgs_parts h).2 j hj
  exact ⟨(okFree_parts this).2.2.1, okFree_mem this⟩
theorem free_letter {xss : List (List Int)} {ys : List Int} (h : okFree xss.length ys = true) {k : Nat} (hk : k < ys.length) : 0 ≤ ab (gi ys k) - 1 ∧ (ab (gi ys k) - 1).toNat < xss.length ∧ -12 ≤ gi ys k ∧ gi ys k ≤ 12 := by
  have h1 := letters_mem (okFree_parts h).2.2.2 _ (gi_mem hk)
  have h2 := okFree_mem h _ (gi_mem hk)
  unfold ab
  omega
set_option maxHeartbeats 1600000 in
theorem impl_ApplyAction_any (v u : Value) (xss : List (List Int)) (ys : List Int) (B : Nat) (w : World) (h : SlS w B v xss) (h2 : Sl w B u ys) (hB : B ≤ w.heap.size) :
    Calls Try.prog 14 #[v, u] w fun e w' => ∃ r, e = .returned (.tuple #[r, .int .i64 (appA xss ys).2]) ∧ Ow w' w.heap.size w'.heap.size r (appA xss ys).1 ∧ Below w.heap.size w w' := by
  obtain ⟨A, c, rfl, hl, hm, -, hcells⟩ := id h
  unfold maxLen at hm
  obtain ⟨A2, c2, rfl, hl2, hm2, -, hcells2⟩ := id h2
  unfold maxLen at hm2
  have HC := Lib.hid hcells
  have HC2 := Lib.hid hcells2
  clear hcells hcells2
  cases hok : okImgs xss
  · have H1 := Lib.hid (show appA xss ys = ([], 1) by simp [appA, hok])
    go_enter Try.func14, Try.ntmps14
    go_wp2_with (go_at_call 50; refine (areImages_any _ xss B _ h hB).mono ?_; rintro e w1 ⟨rfl, hb⟩)
    go_ret2
    exact ⟨_, by rw [H1.out]; rfl, by rw [H1.out]; exact Ow.nil _ _ _, hb⟩
  · cases hok2 : okFree xss.length ys
    · have H1 := Lib.hid (show appA xss ys = ([], 1) by simp [appA, hok2])
      go_enter Try.func14, Try.ntmps14
      go_wp2_with fail
      refine (areImages_any _ xss B _ h hB).mono ?_
      rintro e w1 ⟨rfl, hb⟩
      go_wp2_with fail
      refine (impl_ValidFree_any _ ys B _ _ (h2.below hb hB) (Nat.le_trans hB hb.size)).mono ?_
      rintro e w2 ⟨rfl, hb2⟩
      go_wp2_with fail
      go_ret2
      exact ⟨_, by rw [H1.out]; rfl, by rw [H1.out]; exact Ow.nil _ _ _, hb.trans (hb2.mono hb.size)⟩
    · have H1 := Lib.hid (show appA xss ys = appOf (appGo xss [] ys) by unfold appA; rw [if_pos ⟨hok, hok2⟩])
      have HOK := Lib.hid hok
      have HOK2 := Lib.hid hok2
      have hn12 := (okImgs_parts hok).1
      go_enter Try.func14, Try.ntmps14
      go_wp2_with fail
      refine (areImages_any _ xss B _ h hB).mono ?_
      rintro e w1 ⟨rfl, hb⟩
      go_wp2_with fail
      refine (impl_ValidFree_any _ ys B _ _ (h2.below hb hB) (Nat.le_trans hB hb.size)).mono ?_
      rintro e w2 ⟨rfl, hb2⟩
      have hbb := hb.trans (hb2.mono hb.size)
      have hO := Ow.empty w2
      have ha := al1 w2 (.cells #[] 2)

      go_wp2_with fail
      go_loopw [6, 22] (fun o i wr => ∃ (k : Nat) (out : List Int), k ≤ ys.length ∧ i = .int .i64 k ∧ Ow wr w2.heap.size wr.heap.size o out ∧ out.length ≤ 20000 ∧ appGo xss [] ys = appGo xss out (ys.drop k) ∧ Below w2.heap.size w2 wr) (fun _ i _ => ys.length - (intOf i).toNat)
      case atStart => exact ⟨0, [], Nat.zero_le _, rfl, hO, by simp, rfl, ha⟩
      case round =>
        obtain ⟨k, out, hk, rfl, hO, hol, he, hb3⟩ := hrel
        have HE := Lib.hid he
        have hb4 := hbb.trans (hb3.mono hbb.size)
        clear he
        by_cases hlt : k < ys.length
        · obtain ⟨b, off, rfl, hbB, hcell⟩ := HC2.out (by omega)
          have q1 : wr.cell? ⟨b, off + k, none⟩ = some (.int .i64 (gi ys k)) := by rw [hb4.cell (by simp only; omega)]; exact hcell k hlt
          obtain ⟨l1, l2, l3, l4⟩ := free_letter HOK2.out hlt
          obtain ⟨b2, off2, rfl, hbB2, hcell2⟩ := HC.out (by omega)
          obtain ⟨u3, q0, s0⟩ := hcell2 _ l2
          obtain ⟨m, hm0⟩ : ∃ m, (ab (gi ys k) - 1).toNat = m := ⟨_, rfl⟩
          have hai : ab (gi ys k) = (m : Int) + 1 := by omega
          have HIA := Lib.hid (imgA_if xss (gi ys k))
          rw [hm0] at l2 q0 s0 HIA
          have q2 : wr.cell? ⟨b2, off2 + m, none⟩ = some u3 := by rw [hb4.cell (by simp only; omega)]; exact q0
          have s1 := s0.below hb4 hB
          obtain ⟨r1, r2⟩ := imgs_row HOK.out l2
          have HR := Lib.hid r2
          have hsz2 := hb3.size
          have hlm : (m : Int) < xss.length := by omega
          have HM := Lib.hid hm0
          have hai1 : ab (gi ys k) - 1 = (m : Int) := by omega
          clear hcell hcell2 q0 s0 r2 hm0 hai l1
          go_wp2_with (go_at_call 53; refine (size_any _ _ (by omega) (by omega)).mono ?_; rintro e w' ⟨rfl, rfl⟩)
          refine (pushedWord_any _ _ out (gl xss m) (decide (0 < gi ys k)) w2.heap.size B _ hO s1 (Nat.le_trans hB hbb.size) hsz2 (by omega) (by omega) (fun x hx => by have := HR.out x hx; omega)).mono ?_
          rintro e w3 ⟨r3, rfl, hO2, hb5⟩
          rw [← HIA.out] at hO2
          obtain ⟨A5, c5, rfl, -⟩ := id (hO2.sl (Nat.le_refl _))
          have hb6 := hb3.trans hb5
          by_cases hlo : (pushAll out (imgA xss (gi ys k))).length ≤ 20000
          · have hli : ¬ 20000 < ((pushAll out (imgA xss (gi ys k))).length : Int) := by omega
            have HN := Lib.hid (HE.out.trans (appGo_on hlt hlo))
            go_wp2_with fail
            go_roundw
            case rel => exact ⟨k + 1, _, by omega, by go_num, hO2, hlo, HN.out, hb6⟩
            case measure => simp [intOf]; omega
          · have hli : 20000 < ((pushAll out (imgA xss (gi ys k))).length : Int) := by omega
            have HN := Lib.hid (HE.out.trans (appGo_off hlt hlo))
            go_wp2_with fail
            go_ret2
            exact ⟨_, by rw [H1.out, HN.out]; rfl, by rw [H1.out, HN.out]; exact Ow.nil _ _ _, hbb.trans (hb6.mono hbb.size)⟩
        · obtain rfl : k = ys.length := by omega
          have HN := Lib.hid (show appGo xss [] ys = some out by rw [HE.out, List.drop_length]; rfl)
          go_wp2_with fail
          go_ret2
          exact ⟨_, by rw [H1.out, HN.out]; rfl, by rw [H1.out, HN.out]; exact hO.mono hbb.size (Nat.le_refl _), hb4⟩
end Go.Proofs.Ytcoocjdkppdlmaa
