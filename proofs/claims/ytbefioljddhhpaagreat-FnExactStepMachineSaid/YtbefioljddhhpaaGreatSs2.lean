/-
  Contracts of the laws' own helpers on [][]int64: toInt64SS, eqInt64SS, szInt64SS, markInt64SS, heldInt64SS.
-/
import Derived.Test.YtbefioljddhhpaaGreatSs
import Derived.Test.YtbefioljddhhpaaGreatBraid
namespace Go.Proofs.YtbefioljddhhpaaGreat
set_option maxRecDepth 10000
open Go.RowKit

/-- How many numbers lie in the rows. -/
theorem sl_info : (Tryz.prog.info? 25).map (fun i => (i.zero, i.size, i.bytes)) = some (some (.slice none 0 0), 1, 24) := by kernel_rfl
def lenSS : List (List Int) → Nat
  | [] => 0
  | xs :: r => xs.length + lenSS r
theorem lenSS_snoc (l : List (List Int)) (xs : List Int) : lenSS (l ++ [xs]) = lenSS l + xs.length := by
  induction l with
  | nil => simp [lenSS]
  | cons a l ih => simp [lenSS, ih]; omega
theorem lenSS_append (l r : List (List Int)) : lenSS (l ++ r) = lenSS l + lenSS r := by
  induction l with
  | nil => simp [lenSS]
  | cons a l ih => simp [lenSS, ih]; omega
theorem lenSS_take {xss : List (List Int)} {k : Nat} (h : k < xss.length) : lenSS (xss.take (k + 1)) = lenSS (xss.take k) + (gl xss k).length := by rw [take_gl h, lenSS_snoc]
theorem lenSS_take_le (xss : List (List Int)) (k : Nat) : lenSS (xss.take k) ≤ lenSS xss := by
  conv => rhs; rw [← List.take_append_drop k xss, lenSS_append]
  omega
theorem lenSS_row {xss : List (List Int)} {k : Nat} (h : k < xss.length) : lenSS (xss.take k) + (gl xss k).length ≤ lenSS xss := by rw [← lenSS_take h]; exact lenSS_take_le _ _
/-- What markInt64SS leaves. -/
def markSS (c : Int) : List (List Int) → List (List Int)
  | [] => []
  | xs :: r => countFrom c xs.length :: markSS (c + xs.length) r
theorem markSS_len (c : Int) (xss : List (List Int)) : (markSS c xss).length = xss.length := by
  induction xss generalizing c with
  | nil => rfl
  | cons a l ih => simp [markSS, ih]
theorem markSS_snoc (c : Int) (l : List (List Int)) (xs : List Int) : markSS c (l ++ [xs]) = markSS c l ++ [countFrom (c + lenSS l) xs.length] := by
  induction l generalizing c with
  | nil => simp [markSS, lenSS]
  | cons a l ih => simp [markSS, lenSS, ih]; congr 1; omega
theorem markSS_gl (c : Int) (xss : List (List Int)) (k : Nat) (h : k < xss.length) : gl (markSS c xss) k = countFrom (c + lenSS (xss.take k)) (gl xss k).length := by
  induction xss generalizing c k with
  | nil => simp at h
  | cons a l ih =>
    cases k with
    | zero => simp [markSS, gl, lenSS]
    | succ k =>
      have := ih (c + a.length) k (by simpa using h)
      simp only [gl, markSS, List.getD_cons_succ, List.take_succ_cons, lenSS] at this ⊢
      rw [this]
      congr 1
      omega
/-- Rows of which the first k have been marked. -/
def markedSS (c : Int) (xss : List (List Int)) (k : Nat) : List (List Int) := markSS c (xss.take k) ++ xss.drop k
theorem markedSS_zero (c : Int) (xss : List (List Int)) : markedSS c xss 0 = xss := by simp [markedSS, markSS]
theorem markedSS_all (c : Int) (xss : List (List Int)) : markedSS c xss xss.length = markSS c xss := by simp [markedSS]
theorem markedSS_len (c : Int) (xss : List (List Int)) (k : Nat) (h : k ≤ xss.length) : (markedSS c xss k).length = xss.length := by simp [markedSS, markSS_len]; omega
theorem markedSS_gl (c : Int) (xss : List (List Int)) (k : Nat) (h : k < xss.length) : gl (markedSS c xss k) k = gl xss k := by
  rw [gl_eq (by rw [markedSS_len c xss k (by omega)]; exact h), gl_eq h]
  simp only [markedSS]
  rw [List.getElem_append_right (by rw [markSS_len]; simp; omega)]
  simp only [markSS_len, List.getElem_drop]
  congr 1
  simp; omega
theorem markedSS_set (c : Int) (xss : List (List Int)) (k : Nat) (h : k < xss.length) : (markedSS c xss k).set k (countFrom (c + lenSS (xss.take k)) (gl xss k).length) = markedSS c xss (k + 1) := by
  have hl : (markSS c (xss.take k)).length = k := by rw [markSS_len]; simp; omega
  unfold markedSS
  rw [List.set_append_right _ _ (by omega), hl, Nat.sub_self, drop_gl h, List.set_cons_zero, take_gl h, markSS_snoc]
  simp

/-- One of the rows; another may be put into its place. -/
theorem OwS.at_ {w : World} {S : Nat → Prop} {v : Value} {xss : List (List Int)} (h : OwS w S v xss) (k : Nat) (hk : k < xss.length) (hS : ∀ b, S b → b < w.heap.size) :
    ∃ g cap u a b, v = .slice (some ⟨g, 0, none⟩) xss.length cap ∧ w.cell? ⟨g, k, none⟩ = some u ∧ Ow w a b u (gl xss k) ∧ b ≤ w.heap.size ∧ (∀ j, a ≤ j → j < b → S j) ∧
      ∀ (ys : List Int) (w' : World), Ow w' a b u ys → Chg a b w w' → OwS w' S v (xss.set k ys) := by
  obtain ⟨vs, tag, h1, h2, h3, h4⟩ := h
  have h1' := h1
  rcases h1.2 with ⟨rfl, h0⟩ | ⟨g, cap, cur, rfl, hlo, hh, hn, hcap, hsz, htake⟩
  · omega
  · obtain ⟨u, hu⟩ : ∃ u, vs[k]? = some u := ⟨vs[k], List.getElem?_eq_getElem (by omega)⟩
    obtain ⟨a, b, ho, hab, hSj⟩ := ow_of_rw (h4 k u hu)
    have hb : b ≤ w.heap.size := by
      rcases hab with h5 | h5
      · omega
      · have := hS _ (hSj (b - 1) (by omega) (by omega)).1; omega
    refine ⟨g, cap, u, a, b, rfl, by rw [h1'.cellAt k (by omega), hu], ho, hb, fun j h5 h6 => (hSj j h5 h6).1, fun ys w' ho' hc => ?_⟩
    have hg := h2 g rfl
    have hgo : ¬ (a ≤ g ∧ g < b) := fun hc => by have := (hSj g hc.1 hc.2).2; omega
    refine ⟨vs, tag, ?_, h2, by simp [h3], fun j x hx => ?_⟩
    · rw [List.length_set]
      exact ownsRow_keep h1' fun g' hg' => by simp [Value.ownBlock] at hg'; subst hg'; exact hc.block g (hS g hg.1) (by omega)
    · by_cases hjk : j = k
      · subst hjk
        rw [hu] at hx
        injection hx with hx
        subst hx
        rw [show gl (xss.set j ys) j = ys by rw [gl_eq (by rw [List.length_set]; exact hk)]; simp]
        have h5 := rw_of_ow ho'
        exact ⟨h5.1, fun g' hg' => hSj g' (h5.2 g' hg').1 (h5.2 g' hg').2⟩
      · have hjl : j < xss.length := by have := (List.getElem?_eq_some_iff.1 hx).1; omega
        rw [show gl (xss.set k ys) j = gl xss j by rw [gl_eq (by rw [List.length_set]; exact hjl), gl_eq hjl, List.getElem_set_ne (by omega)]]
        have h5 := h4 j x hx
        refine (rw_ x (gl xss j)).keep h5 fun b' hb' => hc.block b' (hS b' hb'.1) ?_
        by_cases h6 : a ≤ b' ∧ b' < b
        · have h7 := (hSj b' h6.1 h6.2).2
          have := hb'.2
          omega
        · omega
/-- A row is stored into the outer row. -/
theorem OwS.set_ {w : World} {lo hi : Nat} {v u : Value} {xss : List (List Int)} {xs : List Int} (h : OwS w (Iv lo hi) v xss) (k : Nat) (hk : k < xss.length) (hu : Ow w hi w.heap.size u xs) (hhi : hi ≤ w.heap.size) :
    ∃ g cap x, v = .slice (some ⟨g, 0, none⟩) xss.length cap ∧ lo ≤ g ∧ g < hi ∧ w.cell? ⟨g, k, none⟩ = some x ∧ w.frozen? ⟨g, k, none⟩ = false ∧
      OwS (w.setCell ⟨g, k, none⟩ u) (Iv lo (w.setCell ⟨g, k, none⟩ u).heap.size) v (xss.set k xs) ∧ Chg lo hi w (w.setCell ⟨g, k, none⟩ u) := by
  obtain ⟨vs, tag, h1, h2, h3, h4⟩ := h
  have h1' := h1
  rcases h1.2 with ⟨rfl, h0⟩ | ⟨g, cap, cur, rfl, hlo, hh, hn, hcap, hsz, htake⟩
  · omega
  · obtain ⟨x, hx⟩ : ∃ x, vs[k]? = some x := ⟨vs[k], List.getElem?_eq_getElem (by omega)⟩
    have hg := h2 g rfl
    have hs := h1'.stored k u
    refine ⟨g, cap, x, rfl, hg.1.1, hg.1.2, by rw [h1'.cellAt k (by omega), hx], h1'.frozenAt k, ?_, ⟨rfl, rfl, rfl, by simp [World.setCell], fun j _ hj2 => Below.heap_setCell _ _ _ _ (by have := hg.1.1; have := hg.1.2; simp only; omega)⟩⟩
    have hsz : (w.setCell ⟨g, k, none⟩ u).heap.size = w.heap.size := by simp [World.setCell]
    refine ⟨vs.set k u, fun b => if hi ≤ b then k + 1 else if tag b = k + 1 then 0 else tag b, by rw [List.length_set]; exact hs.1, fun g' hg' => ?_, by simp [h3], fun j y hy => ?_⟩
    · simp [Value.ownBlock] at hg'
      subst hg'
      refine ⟨⟨hg.1.1, by rw [hsz]; have := hg.1.2; omega⟩, ?_⟩
      simp only
      rw [if_neg (by have := hg.1.2; omega), if_neg (by have := hg.2; omega)]
      exact hg.2
    · by_cases hjk : j = k
      · subst hjk
        rw [List.getElem?_set_self (by omega)] at hy
        injection hy with hy
        subst hy
        rw [show gl (xss.set j xs) j = xs by rw [gl_eq (by rw [List.length_set]; exact hk)]; simp]
        have h5 := rw_of_ow hu
        refine ⟨ownsRow_keep h5.1 fun g' hg' => Below.heap_setCell _ _ _ _ (by have := (h5.2 g' hg').1; have := hg.1.2; simp only; omega), fun g' hg' => ?_⟩
        have h6 := h5.2 g' hg'
        refine ⟨⟨by have := hg.1.1; have := hg.1.2; omega, by rw [hsz]; exact h6.2⟩, ?_⟩
        simp only
        rw [if_pos h6.1]
      · have hjl : j < vs.length := by have := (List.getElem?_eq_some_iff.1 hy).1; simpa using this
        rw [List.getElem?_set_ne (by omega)] at hy
        rw [show gl (xss.set k xs) j = gl xss j by rw [gl_eq (by rw [List.length_set]; omega), gl_eq (by omega), List.getElem_set_ne (by omega)]]
        have h5 := h4 j y hy
        refine ⟨ownsRow_keep h5.1 fun g' hg' => Below.heap_setCell _ _ _ _ (fun e => by have h6 := (h5.2 g' hg').2; simp only at e; rw [e] at h6; have := hg.2; omega), fun g' hg' => ?_⟩
        have h6 := h5.2 g' hg'
        refine ⟨⟨h6.1.1, by rw [hsz]; have := h6.1.2; omega⟩, ?_⟩
        simp only
        rw [if_neg (by have := h6.1.2; omega), if_neg (by have := h6.2; omega)]
        exact h6.2
theorem drewN_two (w : World) (n m : Nat) : (w.drewN n).drewN m = w.drewN (n + m) := World.drewN_drewN w n m
theorem eqInts_q {v1 v2 : Value} {xs : List Int} {B1 B2 : Nat} {w : World} (h1 : Sl w B1 v1 xs) (h2 : Sl w B2 v2 xs) (n x : Nat) :
    Calls Tryz.prog 33 #[v1, v2] (w.drewN (n + x)) fun e w'' => e = .returned (.bool true) ∧ ∃ m, w'' = w.drewN (n + m) :=
  (eqInts_any _ _ _ _ _ _ _ (h1.drewN _) (h2.drewN _)).mono fun e w' ⟨he, m, hw⟩ => ⟨by rw [he]; simp, x + m, by rw [hw, drewN_two, Nat.add_assoc]⟩
set_option maxHeartbeats 800000 in
theorem eqSS_yes {v1 v2 : Value} {xss : List (List Int)} {B1 B2 : Nat} {w : World} (h1 : SlS w B1 v1 xss) (h2 : SlS w B2 v2 xss) :
    Calls Tryz.prog 30 #[v1, v2] w fun e w' => e = .returned (.bool true) ∧ Below w.heap.size w w' := by
  obtain ⟨A1, c1, rfl, hl1, hm1, -, hc1⟩ := h1
  obtain ⟨A2, c2, rfl, hl2, hm2, -, hc2⟩ := h2
  unfold maxLen at hm1 hm2
  have HC1 := Lib.hid hc1
  have HC2 := Lib.hid hc2
  clear hc1 hc2
  go_enter Tryz.func30, Tryz.ntmps30
  go_wp2
  go_loopw [5] (fun i wr => ∃ k : Nat, k ≤ xss.length ∧ i = .int .i64 k ∧ ∃ n, wr = w.drewN n) (fun i _ => xss.length - (intOf i).toNat)
  case atStart => exact ⟨0, Nat.zero_le _, rfl, 0, rfl⟩
  case round =>
    obtain ⟨k, hk, rfl, n, rfl⟩ := hrel
    by_cases hlt : k < xss.length
    · obtain ⟨b1, o1, rfl, hb1, hcell1⟩ := HC1.out (by omega)
      obtain ⟨b2, o2, rfl, hb2, hcell2⟩ := HC2.out (by omega)
      obtain ⟨u1, q1, s1⟩ := hcell1 k hlt
      obtain ⟨u2, q2, s2⟩ := hcell2 k hlt
      clear hcell1 hcell2
      go_wp2
      go_quiet (first | (go_at_call 33; exact eqInts_q s1 s2 _ _))
      go_wp2
      go_roundw
      case rel => exact ⟨k + 1, by omega, by go_num, _, rfl⟩
      case measure => simp [intOf]; omega
    · go_wp2
      go_ret
      exact ⟨rfl, drewN_below _ _ _⟩
set_option maxHeartbeats 800000 in
theorem heldSS_any {v : Value} {xss : List (List Int)} {B : Nat} {c : Int} {w : World} (h : SlS w B v (markSS c xss)) (hsz : lenSS xss ≤ 67108864) (hc0 : 0 ≤ c) (hc1 : c ≤ 1000000000) :
    Calls Tryz.prog 38 #[v, .int .i64 c] w fun e w' => e = .returned (.int .i64 (c + lenSS xss)) ∧ Below w.heap.size w w' := by
  obtain ⟨A, cap, rfl, hl, hm, -, hcell⟩ := h
  unfold maxLen at hm
  rw [markSS_len] at hl hcell ⊢
  have HC := Lib.hid hcell
  clear hcell
  go_enter Tryz.func38, Tryz.ntmps38
  go_wp2
  go_loop [1, 5] (fun x i => ∃ k : Nat, k ≤ xss.length ∧ i = .int .i64 k ∧ x = .int .i64 (c + lenSS (xss.take k))) (fun _ i => xss.length - (intOf i).toNat)
  case atStart => exact ⟨0, Nat.zero_le _, rfl, by simp [lenSS]⟩
  case round =>
    obtain ⟨k, hk, rfl, rfl⟩ := hrel
    by_cases hlt : k < xss.length
    · obtain ⟨b, off, rfl, hbB, hcell⟩ := HC.out (by omega)
      obtain ⟨u, q1, s1⟩ := hcell k hlt
      rw [markSS_gl c xss k hlt] at s1
      have HL := Lib.hid (lenSS_take hlt)
      have hrow := lenSS_row hlt
      have htk := lenSS_take_le xss k
      have hpos : ¬ c + (lenSS (xss.take k) : Int) + ((gl xss k).length : Int) < 0 := by omega
      clear hcell
      go_wp2_with (go_at_call 41; refine (heldInts_any _ (gl xss k).length _ _ _ s1 (by omega) (by omega) (by omega)).mono ?_; rintro e w' ⟨rfl, rfl⟩)
      go_round
      case rel => exact ⟨k + 1, by omega, by go_num, by rw [HL.out]; simp only [Int.natCast_add]; rw [Int.add_assoc]⟩
      case measure => simp [intOf]; omega
    · obtain rfl : k = xss.length := by omega
      rw [List.take_length]
      go_wp2
      go_ret
      exact ⟨rfl, Below.refl _ _⟩
set_option maxHeartbeats 800000 in
theorem szSS_any {v : Value} {xss : List (List Int)} {B : Nat} {left : Int} {w : World} (h : SlS w B v xss) (h1 : left ≤ 1048576) (h0 : 0 ≤ left) :
    Calls Tryz.prog 12 #[v, .int .i64 left] w fun e w' => e = .returned (.int .i64 (if left < ((xss.length + lenSS xss : Nat) : Int) then -1 else left - ((xss.length + lenSS xss : Nat) : Int))) ∧ w = w' := by
  obtain ⟨A, c, rfl, hl, hm, -, hcell⟩ := id h
  unfold maxLen at hm
  have HC := Lib.hid hcell
  clear hcell
  by_cases hn : left < xss.length
  · have HF := Lib.hid (show (if left < ((xss.length + lenSS xss : Nat) : Int) then -1 else left - ((xss.length + lenSS xss : Nat) : Int)) = -1 by rw [if_pos (by omega)])
    have hn1 : left - xss.length < 0 := by omega
    rw [HF.out]
    go_enter Tryz.func12, Tryz.ntmps12
    go_wp2
    go_ret
    exact ⟨rfl, rfl⟩
  · have hn1 : ¬ left - xss.length < 0 := by omega
    have HFa := Lib.hid (fun (hx : left < ((xss.length + lenSS xss : Nat) : Int)) => show (if left < ((xss.length + lenSS xss : Nat) : Int) then -1 else left - ((xss.length + lenSS xss : Nat) : Int)) = -1 by rw [if_pos hx])
    have HFb := Lib.hid (fun (hx : ¬ left < ((xss.length + lenSS xss : Nat) : Int)) => show (if left < ((xss.length + lenSS xss : Nat) : Int) then -1 else left - ((xss.length + lenSS xss : Nat) : Int)) = left - ((xss.length + lenSS xss : Nat) : Int) by rw [if_neg hx])
    generalize hF : (if left < ((xss.length + lenSS xss : Nat) : Int) then -1 else left - ((xss.length + lenSS xss : Nat) : Int)) = F at *
    clear hF
    go_enter Tryz.func12, Tryz.ntmps12
    go_wp2
    go_loop [1, 5] (fun x i => ∃ k : Nat, k ≤ xss.length ∧ i = .int .i64 k ∧ x = .int .i64 (left - xss.length - lenSS (xss.take k)) ∧ 0 ≤ left - xss.length - lenSS (xss.take k)) (fun _ i => xss.length - (intOf i).toNat)
    case atStart => exact ⟨0, Nat.zero_le _, rfl, by simp [lenSS], by simp [lenSS]; omega⟩
    case round =>
      obtain ⟨k, hk, rfl, rfl, hge⟩ := hrel
      by_cases hlt : k < xss.length
      · obtain ⟨b, off, rfl, hbB, hcell⟩ := HC.out (by omega)
        obtain ⟨u, q1, s1⟩ := hcell k hlt
        have HL := Lib.hid (lenSS_take hlt)
        have hrow := lenSS_row hlt
        clear hcell
        generalize hT : lenSS (xss.take k) = T at *
        have HT := Lib.hid hT
        clear hT
        by_cases hc : left - xss.length - T < (gl xss k).length
        · have HFx := Lib.hid (HFa.out (by omega))
          go_wp2_with (go_at_call 15; refine (szInts_any s1 (by omega) (by omega)).mono ?_; rintro e w' ⟨rfl, rfl⟩; rw [if_pos hc])
          go_ret
          exact ⟨by rw [HFx.out]; rfl, rfl⟩
        · have hc2 : ¬ left - xss.length - T - (gl xss k).length < 0 := by omega
          go_wp2_with (go_at_call 15; refine (szInts_any s1 (by omega) (by omega)).mono ?_; rintro e w' ⟨rfl, rfl⟩; rw [if_neg hc])
          go_round
          case rel => exact ⟨k + 1, by omega, by go_num, by rw [HL.out]; congr 1; omega, by rw [HL.out]; omega⟩
          case measure => simp [intOf]; omega
      · obtain rfl : k = xss.length := by omega
        rw [List.take_length] at hge ⊢
        have HFx := Lib.hid (HFb.out (by omega))
        go_wp2
        go_ret
        exact ⟨ret_int (by rw [HFx.out]; omega), rfl⟩
theorem szSS_no {v : Value} {xss : List (List Int)} {B : Nat} {left : Int} {w : World} (h : SlS w B v xss) (h1 : left ≤ 1048576) (h0 : 0 ≤ left) (hc : left < ((xss.length + lenSS xss : Nat) : Int)) :
    Calls Tryz.prog 12 #[v, .int .i64 left] w fun e w' => e = .returned (.int .i64 (-1)) ∧ Below w.heap.size w w' :=
  (szSS_any h h1 h0).mono fun _ _ ⟨he, hw⟩ => ⟨by rw [he, if_pos hc], by rw [← hw]; exact Below.refl _ _⟩
theorem szSS_yes {v : Value} {xss : List (List Int)} {B : Nat} {left : Int} {w : World} (h : SlS w B v xss) (h1 : left ≤ 1048576) (h0 : 0 ≤ left) (hc : ¬ left < ((xss.length + lenSS xss : Nat) : Int)) :
    Calls Tryz.prog 12 #[v, .int .i64 left] w fun e w' => e = .returned (.int .i64 (left - ((xss.length + lenSS xss : Nat) : Int))) ∧ Below w.heap.size w w' :=
  (szSS_any h h1 h0).mono fun _ _ ⟨he, hw⟩ => ⟨by rw [he, if_neg hc], by rw [← hw]; exact Below.refl _ _⟩
set_option maxHeartbeats 800000 in
theorem markSS_any {v : Value} {xss : List (List Int)} {S : Nat → Prop} {c : Int} {w : World} (h : OwS w S v xss) (hS : ∀ b, S b → b < w.heap.size) (hsz : lenSS xss ≤ 67108864) (hc0 : 0 ≤ c) (hc1 : c ≤ 1000000000) :
    Calls Tryz.prog 34 #[v, .int .i64 c] w fun e w' => e = .returned (.int .i64 (c + lenSS xss)) ∧ OwS w' S v (markSS c xss) ∧ ChgS S w w' := by
  obtain ⟨A, cap, rfl, hl, hm, -⟩ := h.sl hS
  unfold maxLen at hm
  go_enter Tryz.func34, Tryz.ntmps34
  go_wp2
  go_loopw [1, 5] (fun x i wr => ∃ k : Nat, k ≤ xss.length ∧ i = .int .i64 k ∧ x = .int .i64 (c + lenSS (xss.take k)) ∧ OwS wr S (.slice A xss.length cap) (markedSS c xss k) ∧ ChgS S w wr) (fun _ i _ => xss.length - (intOf i).toNat)
  case atStart => exact ⟨0, Nat.zero_le _, rfl, by simp [lenSS], by rw [markedSS_zero]; exact h, ChgS.refl _ _⟩
  case round =>
    obtain ⟨k, hk, rfl, rfl, hO, hb⟩ := hrel
    by_cases hlt : k < xss.length
    · have hlm := markedSS_len c xss k hk
      obtain ⟨g, cap', u, a, b, hv, q1, ho, hbz, hab, hput⟩ := hO.at_ k (by rw [hlm]; exact hlt) fun b hb' => Nat.lt_of_lt_of_le (hS b hb') hb.size
      rw [hlm] at hv
      rw [markedSS_gl c xss k hlt] at ho
      obtain ⟨rfl, rfl⟩ : A = some ⟨g, 0, none⟩ ∧ cap = cap' := by injection hv with h1 h2 h3; exact ⟨h1, h3⟩
      have HL := Lib.hid (lenSS_take hlt)
      have hrow := lenSS_row hlt
      have HP := Lib.hid hput
      have HAB := Lib.hid hab
      have HSET := Lib.hid (markedSS_set c xss k hlt)
      clear hv hput hab hlm
      go_wp2_with (go_at_call 37; refine (markInts_any _ _ _ _ _ _ ho (by omega) (by omega) (by omega)).mono ?_; rintro e w2 ⟨rfl, ho2, hch⟩)
      go_roundw
      case rel =>
        refine ⟨k + 1, by omega, by go_num, by rw [HL.out]; simp only [Int.natCast_add]; rw [Int.add_assoc], ?_, hb.trans ((ChgS.of_chg hch).mono fun j hj => HAB.out j hj.1 hj.2)⟩
        have := HP.out _ w2 ho2 hch
        rwa [HSET.out] at this
      case measure => simp [intOf]; omega
    · obtain rfl : k = xss.length := by omega
      rw [markedSS_all] at hO
      rw [List.take_length]
      go_wp2
      go_ret
      exact ⟨rfl, hO, hb⟩
def filledSS (xss : List (List Int)) (k : Nat) : List (List Int) := xss.take k ++ List.replicate (xss.length - k) []
theorem filledSS_len (xss : List (List Int)) (k : Nat) (h : k ≤ xss.length) : (filledSS xss k).length = xss.length := by simp [filledSS]; omega
theorem filledSS_zero (xss : List (List Int)) : filledSS xss 0 = List.replicate xss.length [] := by simp [filledSS]
theorem filledSS_all (xss : List (List Int)) : filledSS xss xss.length = xss := by simp [filledSS]
theorem filledSS_set (xss : List (List Int)) (k : Nat) (h : k < xss.length) : (filledSS xss k).set k (gl xss k) = filledSS xss (k + 1) := by
  unfold filledSS
  have hl : (xss.take k).length = k := by simp; omega
  rw [List.set_append_right _ _ (by omega), hl, Nat.sub_self]
  obtain ⟨m, hm⟩ : ∃ m, xss.length - k = m + 1 := ⟨xss.length - k - 1, by omega⟩
  rw [hm, List.replicate_succ, List.set_cons_zero, take_gl h, List.append_assoc, show xss.length - (k + 1) = m from by omega]
  rfl
set_option maxHeartbeats 800000 in
theorem toSS_any {v : Value} {xss : List (List Int)} {B : Nat} {w : World} (h : SlS w B v xss) (hB : B ≤ w.heap.size) (hsz : xss.length + lenSS xss ≤ 1048576) :
    Calls Tryz.prog 21 #[v] w fun e w' => ∃ r, e = .returned r ∧ OwS w' (Iv w.heap.size w'.heap.size) r xss ∧ Below w.heap.size w w' := by
  obtain ⟨A, c, rfl, hl, hm, -, hc⟩ := h
  unfold maxLen at hm
  have HC := Lib.hid hc
  clear hc
  obtain ⟨i0, hi, hz0, hz1, hz2⟩ := info_parts sl_info
  have HI := Lib.hid hi
  have HZ := Lib.hid hz0
  clear hi hz0
  go_enter Tryz.func21, Tryz.ntmps21
  go_wp2_with (at_make; refine wpList_make_full _ rfl _ _ 22 rfl w.heap.size 25 i0 (.slice none 0 0) 1 Tryz.underlying22 HI.out HZ.out hz1 _ _ _ _ xss.length rfl rfl rfl rfl (by rw [hz2]; omega) (by unfold maxLen; omega) (Nat.le_refl _) ?_)
  intro w1 hown hg1
  have hO : OwS w1 (Iv w.heap.size w1.heap.size) (.slice (some ⟨w.heap.size, 0, none⟩) xss.length xss.length) (filledSS xss 0) := by
    rw [filledSS_zero]
    refine (OwS.nils (n := xss.length) ?_ fun g hg => ?_)
    · rw [toList_madeCells_one] at hown
      obtain ⟨h1, h2⟩ := hown
      refine ⟨by simp, ?_⟩
      rcases h2 with h2 | ⟨g, cap, cur, e, hlo, r⟩
      · exact .inl h2
      · exact .inr ⟨g, cap, cur, e, Nat.zero_le _, by simpa using r⟩
    · exact ⟨(hown.lt g hg).1, (hown.lt g hg).2⟩
  have hb1 : Below w.heap.size w w1 := (Below.refl _ _).grown hg1 (Nat.le_refl _) (by simp)
  clear hown hg1
  go_wp2
  go_loopw [4] (fun i wr => ∃ k : Nat, k ≤ xss.length ∧ i = .int .i64 k ∧ OwS wr (Iv w.heap.size wr.heap.size) (.slice (some ⟨w.heap.size, 0, none⟩) xss.length xss.length) (filledSS xss k) ∧ Below w.heap.size w wr) (fun i _ => xss.length - (intOf i).toNat)
  case atStart => exact ⟨0, Nat.zero_le _, rfl, hO, hb1⟩
  case round =>
    obtain ⟨k, hk, rfl, hO, hb⟩ := hrel
    by_cases hlt : k < xss.length
    · obtain ⟨b, off, rfl, hbB, hcell⟩ := HC.out (by omega)
      obtain ⟨u, q0, s0⟩ := hcell k hlt
      have q1 : wr.cell? ⟨b, off + k, none⟩ = some u := by rw [hb.cell (by simp only; omega)]; exact q0
      have s1 := s0.below hb hB
      have hrow := lenSS_row hlt
      clear hcell q0 s0
      go_wp2_with fail
      refine (toInts_any _ _ _ _ s1 (Nat.le_trans hB hb.size) (by omega)).mono ?_
      rintro e w2 ⟨r2, rfl, ho2, hq⟩
      obtain ⟨A2, c2, rfl, -⟩ := id (ho2.sl (Nat.le_refl _))
      obtain ⟨g, cap, x, hv, hlo, hhi, q2, q3, hO2, hch⟩ := OwS.set_ (hO.below hq (Nat.le_refl _)) k (by rw [filledSS_len xss k hk]; exact hlt) ho2 hq.size
      obtain rfl : w.heap.size = g := by injection hv with hv _ _; injection hv with hv; injection hv
      have HO2 := Lib.hid hO2
      have HCH := Lib.hid hch
      have hb2 := hb.trans (hq.mono hb.size)
      clear hv hO2 hch
      go_wp2_with fail
      go_roundw
      case rel =>
        refine ⟨k + 1, by omega, by go_num, ?_, hb2.trans (HCH.out.below (Nat.le_refl _) hb2.size)⟩
        have := HO2.out
        rw [filledSS_set xss k hlt] at this
        exact this
      case measure => simp [intOf]; omega
    · obtain rfl : k = xss.length := by omega
      rw [filledSS_all] at hO
      go_wp2
      go_ret
      exact ⟨_, rfl, hO, hb⟩
end Go.Proofs.YtbefioljddhhpaaGreat
