/-
  Contracts: inverses, joins and cores of words.
-/
import Derived.Test.YtcoocjdkppdlmaaRed
import Derived.Test.YtcoocjdkppdlmaaRed2
import Derived.Test.YtcoocjdkppdlmaaSlib
import Derived.Test.YtcoocjdkppdlmaaFg
namespace Go.Proofs.Ytcoocjdkppdlmaa
set_option maxRecDepth 10000
open Go.RowKit

theorem inv_drop {xs : List Int} {k : Nat} (h : k < xs.length) : inv (xs.drop k) = inv (xs.drop (k + 1)) ++ [-gi xs k] := by
  rw [drop_gi h]; simp [inv]
set_option maxHeartbeats 800000 in
theorem inverted_any (v : Value) (xs : List Int) (B : Nat) (w : World) (h : Sl w B v xs) (hB : B ≤ w.heap.size) (hsz : xs.length ≤ 1000000) (hbd : ∀ x ∈ xs, -1000 ≤ x ∧ x ≤ 1000) :
    Calls Try.prog 74 #[v] w fun e w' => ∃ r, e = .returned r ∧ Ow w' w.heap.size w'.heap.size r (inv xs) ∧ Below w.heap.size w w' := by
  obtain ⟨A, c, rfl, hl, hm, _, hcells⟩ := h
  unfold maxLen at hm
  have HC := Lib.hid hcells
  have HBD := Lib.hid hbd
  clear hcells hbd
  obtain ⟨i0, hi, hz0, hz1, hz2⟩ := info_parts i64_info
  have HI := Lib.hid hi
  have HZ := Lib.hid hz0
  clear hi hz0
  go_enter Try.func74, Try.ntmps74
  go_wp2_with (at_make; refine wpList_make_own _ rfl _ _ 23 rfl w.heap.size 2 i0 (.int .i64 0) 1 Try.underlying23 HI.out HZ.out hz1 _ _ _ xs.length rfl rfl rfl (by rw [hz2]; omega) (by unfold maxLen; omega) (Nat.le_refl _) ?_)
  intro w1 hown hg1
  have hO : Ow w1 w.heap.size w1.heap.size (.slice (some ⟨w.heap.size, 0, none⟩) 0 xs.length) (inv (xs.drop xs.length)) := Ow.of_own hown (by simp [inv]) (by simp [inv, vals])
  have hb1 : Below w.heap.size w w1 := (Below.refl _ _).grown hg1 (Nat.le_refl _) (by simp)
  clear hown hg1
  go_wp2
  go_loopw [3, 4] (fun o i wr => ∃ k : Nat, k ≤ xs.length ∧ i = .int .i64 (k - 1) ∧ Ow wr w.heap.size wr.heap.size o (inv (xs.drop k)) ∧ Below w.heap.size w wr) (fun _ i _ => (intOf i + 1).toNat)
  case atStart => exact ⟨xs.length, Nat.le_refl _, rfl, hO, hb1⟩
  case round =>
    obtain ⟨k, hk, rfl, hO, hb⟩ := hrel
    rcases Nat.eq_zero_or_pos k with rfl | hp
    · go_wp2
      go_ret
      exact ⟨_, rfl, hO, hb⟩
    · obtain ⟨j, rfl⟩ : ∃ j, k = j + 1 := ⟨k - 1, by omega⟩
      rw [show (((j + 1 : Nat) : Int) - 1) = (j : Int) by omega]
      have hlt : j < xs.length := by omega
      obtain ⟨b, off, rfl, hbB, hcell⟩ := HC.out (by omega)
      have q1 : wr.cell? ⟨b, off + j, none⟩ = some (.int .i64 (gi xs j)) := by rw [hb.cell (by simp only; omega)]; exact hcell j hlt
      obtain ⟨y1, y2⟩ := HBD.out _ (gi_mem hlt)
      have HS := Lib.hid (inv_drop hlt)
      have hl2 : (inv (xs.drop (j + 1))).length ≤ 1000000000 := by rw [inv_len]; simp; omega
      have hsz2 := hb.size
      clear hcell
      go_wp2_with (at_builtin; refine wpList_append_one rfl _ _ rfl _ _ _ _ _ (-gi xs j) rfl rfl hO hsz2 hl2 ?_; intro v1 w2 hO2 hg2 _)
      have hbw := hO.grown hg2 (Nat.le_refl _) hsz2
      go_roundw
      case rel => exact ⟨j, by omega, by go_num, by rw [HS.out]; exact hO2, hb.trans hbw⟩
      case measure => simp [intOf]
set_option maxHeartbeats 800000 in
theorem l03Inverse_any (v : Value) (xs : List Int) (B : Nat) (w : World) (h : Sl w B v xs) (hB : B ≤ w.heap.size) (hsz : xs.length ≤ 1000000) (hbd : ∀ x ∈ xs, -1000 ≤ x ∧ x ≤ 1000) :
    Calls Try.prog 70 #[v] w fun e w' => ∃ r, e = .returned r ∧ Ow w' w.heap.size w'.heap.size r (inv xs) ∧ Below w.heap.size w w' := by
  obtain ⟨A, c, rfl, hl, hm, _, hcells⟩ := h
  unfold maxLen at hm
  have HC := Lib.hid hcells
  have HBD := Lib.hid hbd
  clear hcells hbd
  have hO0 := Ow.empty w
  have hO : Ow (w.alloc (.cells #[] 2)) w.heap.size (w.alloc (.cells #[] 2)).heap.size (.slice (some ⟨w.heap.size, 0, none⟩) 0 0) (inv (xs.drop xs.length)) := by simpa [inv] using hO0
  have hb1 := al1 w (.cells #[] 2)
  clear hO0
  go_enter Try.func70, Try.ntmps70
  go_wp2
  go_loopw [3, 4] (fun o i wr => ∃ k : Nat, k ≤ xs.length ∧ i = .int .i64 (k - 1) ∧ Ow wr w.heap.size wr.heap.size o (inv (xs.drop k)) ∧ Below w.heap.size w wr) (fun _ i _ => (intOf i + 1).toNat)
  case atStart => exact ⟨xs.length, Nat.le_refl _, rfl, hO, hb1⟩
  case round =>
    obtain ⟨k, hk, rfl, hO, hb⟩ := hrel
    rcases Nat.eq_zero_or_pos k with rfl | hp
    · go_wp2
      go_ret
      exact ⟨_, rfl, hO, hb⟩
    · obtain ⟨j, rfl⟩ : ∃ j, k = j + 1 := ⟨k - 1, by omega⟩
      rw [show (((j + 1 : Nat) : Int) - 1) = (j : Int) by omega]
      have hlt : j < xs.length := by omega
      obtain ⟨b, off, rfl, hbB, hcell⟩ := HC.out (by omega)
      have q1 : wr.cell? ⟨b, off + j, none⟩ = some (.int .i64 (gi xs j)) := by rw [hb.cell (by simp only; omega)]; exact hcell j hlt
      obtain ⟨y1, y2⟩ := HBD.out _ (gi_mem hlt)
      have HS := Lib.hid (inv_drop hlt)
      have hl2 : (inv (xs.drop (j + 1))).length ≤ 1000000000 := by rw [inv_len]; simp; omega
      have hsz2 := hb.size
      clear hcell
      go_wp2_with (at_builtin; refine wpList_append_one rfl _ _ rfl _ _ _ _ _ (-gi xs j) rfl rfl hO hsz2 hl2 ?_; intro v1 w2 hO2 hg2 _)
      have hbw := hO.grown hg2 (Nat.le_refl _) hsz2
      go_roundw
      case rel => exact ⟨j, by omega, by go_num, by rw [HS.out]; exact hO2, hb.trans hbw⟩
      case measure => simp [intOf]
theorem pushAll_take {out xs : List Int} {k : Nat} (h : k < xs.length) : pushAll out (xs.take (k + 1)) = push (pushAll out (xs.take k)) (gi xs k) := by
  rw [take_gi h]; exact pushAll_snoc _ _ _
set_option maxHeartbeats 1600000 in
/-- l05Push onto a row of the call's own (its block lies from lo on). -/
theorem l05Push_any (u v : Value) (os xs : List Int) (lo B : Nat) (w : World) (hu : Ow w lo w.heap.size u os) (h : Sl w B v xs) (hB : B ≤ lo) (hlo : lo ≤ w.heap.size) (hsz : xs.length ≤ 1000000) (hso : os.length ≤ 1000000) (hbd : ∀ x ∈ xs, -1000 ≤ x ∧ x ≤ 1000) :
    Calls Try.prog 62 #[u, v] w fun e w' => ∃ r, e = .returned r ∧ Ow w' lo w'.heap.size r (pushAll os xs) ∧ Below lo w w' := by
  obtain ⟨A, c, rfl, hl, hm, _, hcells⟩ := h
  unfold maxLen at hm
  have HC := Lib.hid hcells
  have HBD := Lib.hid hbd
  clear hcells hbd
  go_enter Try.func62, Try.ntmps62
  go_wp2
  go_loopw [0, 5] (fun o i wr => ∃ k : Nat, k ≤ xs.length ∧ i = .int .i64 k ∧ Ow wr lo wr.heap.size o (pushAll os (xs.take k)) ∧ Below lo w wr) (fun _ i _ => xs.length - (intOf i).toNat)
  case atStart => exact ⟨0, Nat.zero_le _, rfl, hu, Below.refl _ _⟩
  case round =>
    obtain ⟨k, hk, rfl, hO, hb⟩ := hrel
    by_cases hlt : k < xs.length
    · obtain ⟨b, off, rfl, hbB, hcell⟩ := HC.out (by omega)
      have q1 : wr.cell? ⟨b, off + k, none⟩ = some (.int .i64 (gi xs k)) := by rw [hb.cell (by simp only; omega)]; exact hcell k hlt
      obtain ⟨y1, y2⟩ := HBD.out _ (gi_mem hlt)
      have hrl := pushAll_len os (xs.take k)
      rw [List.length_take] at hrl
      have hst := pushAll_take (out := os) hlt
      have hsz2 : lo ≤ wr.heap.size := Nat.le_trans hlo hb.size
      clear hcell
      generalize hR : pushAll os (xs.take k) = R at *
      generalize hR' : pushAll os (xs.take (k + 1)) = R' at *
      have HR' := Lib.hid hR'
      clear hR hR'
      rcases hO.form with ⟨rfl, rfl⟩ | ⟨g, cap, rfl, hlo, hhi, hcap, hcap2, hcl⟩
      · have HST : Hid (R' = [gi xs k]) := Lib.hid (by rw [hst, push_on (.inl rfl)]; rfl)
        clear hst
        go_wp2
        go_quiet (fail)
        go_wp2_with (at_builtin; refine wpList_append_one rfl _ _ rfl (wr.drewN nq) _ _ _ _ (gi xs k) rfl rfl (hO.dr _) hsz2 (by simp) ?_; intro v1 w2 hO2 hg2 _)
        have hbw := (below_drewN hb _).trans ((hO.dr _).grown hg2 (Nat.le_refl _) hsz2)
        go_roundw
        case rel => exact ⟨k + 1, by omega, by go_num, by rw [HR'.out, HST.out]; exact hO2, hbw⟩
        case measure => simp [intOf]; omega
      · rcases Nat.eq_zero_or_pos R.length with h0 | hpos
        · obtain rfl := List.eq_nil_of_length_eq_zero h0
          have HST : Hid (R' = [gi xs k]) := Lib.hid (by rw [hst, push_on (.inl rfl)]; rfl)
          clear hst hcl h0
          go_wp2
          go_quiet (fail)
          go_wp2_with (at_builtin; refine wpList_append_one rfl _ _ rfl (wr.drewN nq) _ _ _ _ (gi xs k) rfl rfl (hO.dr _) hsz2 (by simp) ?_; intro v1 w2 hO2 hg2 _)
          have hbw := (below_drewN hb _).trans ((hO.dr _).grown hg2 (Nat.le_refl _) hsz2)
          go_roundw
          case rel => exact ⟨k + 1, by omega, by go_num, by rw [HR'.out, HST.out]; exact hO2, hbw⟩
          case measure => simp [intOf]; omega
        · have q2 := hcl (R.length - 1) (by omega)
          clear hcl
          by_cases he : gi R (R.length - 1) = -gi xs k
          · have heb : (gi R (R.length - 1) == -gi xs k) = true := by simp [he]
            have HST : Hid (R' = R.dropLast) := Lib.hid (by rw [hst]; exact push_back hpos he)
            have hO2 := hO.pop hpos
            clear hst he
            go_wp2
            go_quiet (fail)
            go_wp2
            go_roundw
            case rel => exact ⟨k + 1, by omega, by go_num, by rw [HR'.out, HST.out]; exact hO2.dr _, below_drewN hb _⟩
            case measure => simp [intOf]; omega
          · have heb : (gi R (R.length - 1) == -gi xs k) = false := by simp [he]
            have HST : Hid (R' = R ++ [gi xs k]) := Lib.hid (by rw [hst]; exact push_on (.inr he))
            clear hst he
            go_wp2
            go_quiet (fail)
            go_wp2_with (at_builtin; refine wpList_append_one rfl _ _ rfl (wr.drewN nq) _ _ _ _ (gi xs k) rfl rfl (hO.dr _) hsz2 (by omega) ?_; intro v1 w2 hO2 hg2 _)
            have hbw := (below_drewN hb _).trans ((hO.dr _).grown hg2 (Nat.le_refl _) hsz2)
            go_roundw
            case rel => exact ⟨k + 1, by omega, by go_num, by rw [HR'.out, HST.out]; exact hO2, hbw⟩
            case measure => simp [intOf]; omega
    · obtain rfl : k = xs.length := by omega
      rw [List.take_of_length_le (Nat.le_refl _)] at hO
      go_wp2
      go_ret
      exact ⟨_, rfl, hO, hb⟩
/-- The inverse of the reduced word, of a valid word; nothing of another. -/
def fInv (n : Int) (xs : List Int) : List Int := if okFree n xs = true then inv (red xs) else []
theorem fInv_len (n : Int) (xs : List Int) : (fInv n xs).length ≤ xs.length := by
  unfold fInv; split
  · rw [inv_len]; exact red_len xs
  · simp
theorem red_bd {n : Int} {xs : List Int} (h : okFree n xs = true) : ∀ x ∈ red xs, -1000 ≤ x ∧ x ≤ 1000 := fun x hx => by have := okFree_mem h x (red_mem hx); omega
theorem inv_mem {xs : List Int} {x : Int} (h : x ∈ inv xs) : -x ∈ xs := by
  simp only [inv, List.mem_reverse, List.mem_map] at h
  obtain ⟨y, hy, rfl⟩ := h
  simpa using hy
set_option maxHeartbeats 400000 in
theorem impl_FreeInverse_any (v : Value) (xs : List Int) (B : Nat) (n : Int) (w : World) (h : Sl w B v xs) (hB : B ≤ w.heap.size) :
    Calls Try.prog 36 #[.int .i64 n, v] w fun e w' => ∃ r, e = .returned (.tuple #[r, .bool (okFree n xs)]) ∧ Ow w' w.heap.size w'.heap.size r (fInv n xs) ∧ Below w.heap.size w w' := by
  cases hok : okFree n xs
  · have HF := Lib.hid (show fInv n xs = [] by simp [fInv, hok])
    go_enter Try.func36, Try.ntmps36
    go_wp2_with (go_at_call 51; refine (impl_ValidFree_any _ xs B _ _ h hB).mono ?_; rintro e w1 ⟨rfl, hb⟩)
    go_ret2
    exact ⟨_, rfl, by rw [HF.out]; exact Ow.nil _ _ _, hb⟩
  · have HF := Lib.hid (show fInv n xs = inv (red xs) by simp [fInv, hok])
    have HM := Lib.hid (okFree_mem hok)
    have HR := Lib.hid (red_bd hok)
    have hlen := (okFree_parts hok).2.2.1
    have hrl := red_len xs
    go_enter Try.func36, Try.ntmps36
    go_wp2_with fail
    refine (impl_ValidFree_any _ xs B _ _ h hB).mono ?_
    rintro e w1 ⟨rfl, hb⟩
    go_wp2_with fail
    refine (reduced_any _ xs B _ (h.below hb hB) (Nat.le_trans hB hb.size) (by omega) (fun x hx => by have := HM.out x hx; omega)).mono ?_
    rintro e w2 ⟨r, rfl, ho, hb2⟩
    go_wp2_with fail
    refine (inverted_any _ _ _ _ (ho.sl (Nat.le_refl _)) (Nat.le_refl _) (by omega) HR.out).mono ?_
    rintro e w3 ⟨r3, rfl, ho3, hb3⟩
    go_wp2_with fail
    go_ret2
    exact ⟨_, rfl, by rw [HF.out]; exact ho3.mono (Nat.le_trans hb.size hb2.size) (Nat.le_refl _), (hb.trans (hb2.mono hb.size)).trans (hb3.mono (Nat.le_trans hb.size hb2.size))⟩
/-- The reduced word of two valid words behind one another, where it is not too long; and the code. -/
def fJoin (n : Int) (xs ys : List Int) : List Int := if okFree n xs = true ∧ okFree n ys = true ∧ (red (xs ++ ys)).length ≤ 20000 then red (xs ++ ys) else []
def fJoinC (n : Int) (xs ys : List Int) : Int := if okFree n xs = true ∧ okFree n ys = true then (if (red (xs ++ ys)).length ≤ 20000 then 0 else 5) else 1
theorem fJoin_len (n : Int) (xs ys : List Int) : (fJoin n xs ys).length ≤ 20000 := by
  unfold fJoin; split
  · rename_i h; exact h.2.2
  · simp
set_option maxHeartbeats 800000 in
theorem impl_FreeJoin_any (v u : Value) (xs ys : List Int) (B : Nat) (n : Int) (w : World) (h : Sl w B v xs) (h2 : Sl w B u ys) (hB : B ≤ w.heap.size) :
    Calls Try.prog 39 #[.int .i64 n, v, u] w fun e w' => ∃ r, e = .returned (.tuple #[r, .int .i64 (fJoinC n xs ys)]) ∧ Ow w' w.heap.size w'.heap.size r (fJoin n xs ys) ∧ Below w.heap.size w w' := by
  cases hok : okFree n xs
  · have HF := Lib.hid (show fJoin n xs ys = [] by simp [fJoin, hok])
    have HC := Lib.hid (show fJoinC n xs ys = 1 by simp [fJoinC, hok])
    go_enter Try.func39, Try.ntmps39
    go_wp2_with (go_at_call 51; refine (impl_ValidFree_any _ xs B _ _ h hB).mono ?_; rintro e w1 ⟨rfl, hb⟩)
    go_ret2
    exact ⟨_, by rw [HC.out]; rfl, by rw [HF.out]; exact Ow.nil _ _ _, hb⟩
  · cases hok2 : okFree n ys
    · have HF := Lib.hid (show fJoin n xs ys = [] by simp [fJoin, hok2])
      have HC := Lib.hid (show fJoinC n xs ys = 1 by simp [fJoinC, hok2])
      go_enter Try.func39, Try.ntmps39
      go_wp2_with fail
      refine (impl_ValidFree_any _ xs B _ _ h hB).mono ?_
      rintro e w1 ⟨rfl, hb⟩
      go_wp2_with fail
      refine (impl_ValidFree_any _ ys B _ _ (h2.below hb hB) (Nat.le_trans hB hb.size)).mono ?_
      rintro e w2 ⟨rfl, hb2⟩
      go_wp2_with fail
      go_ret2
      exact ⟨_, by rw [HC.out]; rfl, by rw [HF.out]; exact Ow.nil _ _ _, hb.trans (hb2.mono hb.size)⟩
    · have HM := Lib.hid (okFree_mem hok)
      have HM2 := Lib.hid (okFree_mem hok2)
      have hlen := (okFree_parts hok).2.2.1
      have hlen2 := (okFree_parts hok2).2.2.1
      obtain ⟨A1, k1, e1, -⟩ := id h
      obtain ⟨A2, k2, e2, -⟩ := id h2
      subst e1 e2
      go_enter Try.func39, Try.ntmps39
      go_wp2_with fail
      refine (impl_ValidFree_any _ xs B _ _ h hB).mono ?_
      rintro e w1 ⟨rfl, hb⟩
      go_wp2_with fail
      refine (impl_ValidFree_any _ ys B _ _ (h2.below hb hB) (Nat.le_trans hB hb.size)).mono ?_
      rintro e w2 ⟨rfl, hb2⟩
      have hbb := hb.trans (hb2.mono hb.size)
      go_wp2_with fail
      refine (concat2_any _ _ _ xs ys B _ ((h.below hbb hB).below (al1 _ _) (Nat.le_trans hB hbb.size)) ((h2.below hbb hB).below (al1 _ _) (Nat.le_trans hB hbb.size)) (Nat.le_trans (Nat.le_trans hB hbb.size) (al1 _ _).size) (by simp) (by simp) (by omega) (by omega)).mono ?_
      rintro e w3 ⟨r, rfl, ho, hb3⟩
      have hb4 := hbb.trans (((al1 _ _).trans (hb3.mono (al1 _ _).size)).mono hbb.size)
      go_wp2_with fail
      refine (reduced_any _ _ _ _ (ho.sl (Nat.le_refl _)) (Nat.le_refl _) (by simp; omega) (fun x hx => by rcases List.mem_append.1 hx with hx | hx; (have := HM.out x hx; omega); (have := HM2.out x hx; omega))).mono ?_
      rintro e w5 ⟨r5, rfl, ho5, hb5⟩
      have hb6 := hb4.trans (hb5.mono hb4.size)
      by_cases hl : (red (xs ++ ys)).length ≤ 20000
      · have HF := Lib.hid (show fJoin n xs ys = red (xs ++ ys) by unfold fJoin; rw [if_pos ⟨hok, hok2, hl⟩])
        have HC := Lib.hid (show fJoinC n xs ys = 0 by unfold fJoinC; rw [if_pos ⟨hok, hok2⟩, if_pos hl])
        have ho5' := ho5
        obtain ⟨A, c, e1, -⟩ := ho5.sl (Nat.le_refl _)
        subst e1
        have hli : ¬ 20000 < ((red (xs ++ ys)).length : Int) := by omega
        go_wp2_with fail
        go_ret2
        exact ⟨_, by rw [HC.out]; rfl, by rw [HF.out]; exact ho5'.mono hb4.size (Nat.le_refl _), hb6⟩
      · have HF := Lib.hid (show fJoin n xs ys = [] by unfold fJoin; rw [if_neg (fun h => hl h.2.2)])
        have HC := Lib.hid (show fJoinC n xs ys = 5 by unfold fJoinC; rw [if_pos ⟨hok, hok2⟩, if_neg hl])
        obtain ⟨A, c, e1, -⟩ := ho5.sl (Nat.le_refl _)
        subst e1
        have hli : 20000 < ((red (xs ++ ys)).length : Int) := by omega
        go_wp2_with fail
        go_ret2
        exact ⟨_, by rw [HC.out]; rfl, by rw [HF.out]; exact Ow.nil _ _ _, hb6⟩
end Go.Proofs.Ytcoocjdkppdlmaa
