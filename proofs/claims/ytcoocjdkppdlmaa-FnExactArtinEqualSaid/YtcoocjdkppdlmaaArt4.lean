/-
  Contracts: the images under a braid (the reference's l05Action, ArtinAction).
-/
import Derived.Test.YtcoocjdkppdlmaaArt3
namespace Go.Proofs.Ytcoocjdkppdlmaa
set_option maxRecDepth 10000
open Go.RowKit

/-- A row's word acts on the generators up to n. -/
def okRow (n : Nat) (r : List Int) : Prop := r.length ≤ 20000 ∧ ∀ x ∈ r, x ≠ 0 ∧ -(n : Int) ≤ x ∧ x ≤ n
def okRows (n : Nat) (rows : List (List Int)) : Prop := rows.length = n ∧ ∀ j, j < n → okRow n (gl rows j)
def optSS (r : Option (List (List Int))) : List (List Int) := match r with | none => [] | some o => o
theorem okRows_unit (n : Nat) : okRows n (unitL n) := ⟨unitL_len n, fun j hj => by rw [unitL_gl hj]; exact ⟨by simp, by simp; omega⟩⟩
theorem letterRows_row {n j : Nat} {l : Int} (h : j < n) (hl : l ≠ 0) : gl (letterRows n l) j = imgL l ((j : Int) + 1) := by
  have h0 : ab ((j : Int) + 1) = (j : Int) + 1 := by unfold ab; omega
  rw [← imgA_letter (n := n) hl (show (j : Int) + 1 ≠ 0 by omega) (by rw [h0]; omega), imgA, if_pos (by omega), h0, show ((j : Int) + 1 - 1).toNat = j by omega]
theorem im_row {l n : Int} (h0 : l ≠ 0) (h1 : 1 - n ≤ l) (h2 : l ≤ n - 1) : (∀ x ∈ im1 l, x ≠ 0 ∧ -n ≤ x ∧ x ≤ n) ∧ (∀ x ∈ im2 l, x ≠ 0 ∧ -n ≤ x ∧ x ≤ n) := by
  have hk : 1 ≤ ab l ∧ ab l ≤ n - 1 := by unfold ab; omega
  constructor
  · intro x hx
    unfold im1 at hx
    split at hx <;> simp at hx <;> omega
  · intro x hx
    unfold im2 at hx
    split at hx <;> simp at hx <;> omega
theorem imgL_row {l n g : Int} (h0 : l ≠ 0) (h1 : 1 - n ≤ l) (h2 : l ≤ n - 1) (h3 : g ≠ 0 ∧ -n ≤ g ∧ g ≤ n) : ∀ x ∈ imgL l g, x ≠ 0 ∧ -n ≤ x ∧ x ≤ n := by
  obtain ⟨b1, b2⟩ := im_row h0 h1 h2
  intro x hx
  unfold imgL at hx
  split at hx
  · split at hx
    · exact b1 x hx
    · have := b1 _ (inv_mem hx); omega
  · split at hx
    · split at hx
      · exact b2 x hx
      · have := b2 _ (inv_mem hx); omega
    · simp at hx; omega
theorem actW_row {l n : Int} {xs : List Int} (h0 : l ≠ 0) (h1 : 1 - n ≤ l) (h2 : l ≤ n - 1) (h : ∀ x ∈ xs, x ≠ 0 ∧ -n ≤ x ∧ x ≤ n) : ∀ x ∈ actW l xs, x ≠ 0 ∧ -n ≤ x ∧ x ≤ n := fun x hx => by
  have := pushAll_mem hx
  rcases this with this | this
  · simp at this
  · obtain ⟨g, hg, hx⟩ := List.mem_flatMap.1 this
    exact imgL_row h0 h1 h2 (h g hg) x hx
theorem gl_map {rows : List (List Int)} {f : List Int → List Int} {j : Nat} (h : j < rows.length) : gl (rows.map f) j = f (gl rows j) := by rw [gl_eq (by simpa using h), gl_eq h]; simp
theorem okRows_act {l : Int} {n : Nat} {rows : List (List Int)} (h0 : l ≠ 0) (h1 : 1 - (n : Int) ≤ l) (h2 : l ≤ (n : Int) - 1) (h : okRows n rows) (hs : ∀ j, j < n → (actW l (gl rows j)).length ≤ 20000) : okRows n (rows.map (actW l)) :=
  ⟨by rw [List.length_map]; exact h.1, fun j hj => by rw [gl_map (by rw [h.1]; exact hj)]; exact ⟨hs j hj, actW_row h0 h1 h2 (h.2 j hj).2⟩⟩
set_option maxHeartbeats 3200000 in
theorem l05Action_any (n : Nat) (v : Value) (xs : List Int) (pb B : Nat) (w : World) (h : Sl w B v xs) (hB : B ≤ w.heap.size) (hp : pb < w.heap.size) (h0 : w.cell? ⟨pb, 0, none⟩ = some (.int .i64 n)) (h1 : w.cell? ⟨pb, 1, none⟩ = some v)
    (hn : n ≤ 12) (hx16 : xs.length ≤ 16) (hxs : ∀ x ∈ xs, x ≠ 0 ∧ 1 - (n : Int) ≤ x ∧ x ≤ (n : Int) - 1) :
    Calls Try.prog 57 #[.pointer (some ⟨pb, 0, none⟩)] w fun e w' => ∃ r, e = .returned (.tuple #[r, .bool (actRows (unitL n) xs).isSome]) ∧ OwS w' (Iv w.heap.size w'.heap.size) r (optSS (actRows (unitL n) xs)) ∧ Below w.heap.size w w' := by
  obtain ⟨A, c, rfl, hl, hm, -, hcells⟩ := id h
  unfold maxLen at hm
  have HC := Lib.hid hcells
  have HX := Lib.hid hxs
  clear hcells hxs
  go_enter Try.func57, Try.ntmps57
  go_wp2_with fail
  refine (l05Unit_any n _ hn).mono ?_
  rintro e w1 ⟨r1, rfl, hO, hb⟩
  obtain ⟨A1, c1, e1, hl1, hm1, -⟩ := id (hO.sl fun b hb => hb.2)
  rw [unitL_len] at hl1 e1
  subst e1
  unfold maxLen at hm1
  go_wp2_with fail
  go_loopw [5] (fun i wr => ∃ (k : Nat) (rows : List (List Int)), k ≤ xs.length ∧ i = .int .i64 k ∧ OwS wr (Iv w.heap.size wr.heap.size) (.slice A1 n c1) rows ∧ okRows n rows ∧ Hid (actRows (unitL n) xs = actRows rows (xs.drop k)) ∧ Below w.heap.size w wr) (fun i _ => xs.length - (intOf i).toNat)
  case atStart => exact ⟨0, _, Nat.zero_le _, rfl, hO, okRows_unit n, Lib.hid rfl, hb⟩
  case round =>
    obtain ⟨k, rows, hk, rfl, hO2, hok, HE, hb2⟩ := hrel
    obtain ⟨wk, hwk⟩ : ∃ x, x = wr := ⟨_, rfl⟩
    subst hwk
    have j0 : wk.cell? ⟨pb, 0, none⟩ = some (.int .i64 n) := by rw [hb2.cell hp]; exact h0
    have j1 : wk.cell? ⟨pb, 1, none⟩ = some (.slice A xs.length c) := by rw [hb2.cell hp]; exact h1
    by_cases hlt : k < xs.length
    · obtain ⟨b, off, rfl, hbB, hcell⟩ := HC.out (by omega)
      have q1 : wk.cell? ⟨b, off + k, none⟩ = some (.int .i64 (gi xs k)) := by rw [hb2.cell (by simp only; omega)]; exact hcell k hlt
      obtain ⟨x0, x1, x2⟩ := HX.out _ (gi_mem hlt)
      generalize hL : gi xs k = L at *
      have HOK := Lib.hid hok.2
      have hrn := hok.1
      have hO2' := hO2
      obtain ⟨g, c2, x, hv, hlo, hhi, -, -, -, -⟩ := OwS.set_ hO2' 0 (by omega) (Ow.nil wk wk.heap.size wk.heap.size) (Nat.le_refl _)
      rw [hrn] at hv
      injection hv with hv _ hv2
      subst hv hv2
      clear hcell hok hO2'
      go_wp2_with fail
      have HK := Lib.hid (fun w' (hw : Below wk.heap.size wk w') => show w'.cell? ⟨pb, 0, none⟩ = some (.int .i64 n) ∧ w'.cell? ⟨pb, 1, none⟩ = some (.slice (some ⟨b, off, none⟩) xs.length c) ∧ w'.cell? ⟨b, off + k, none⟩ = some (.int .i64 L) ∧ Below wk.heap.size wk w' from
        ⟨by rw [hw.cell (block_lt_of_cell j0)]; exact j0, by rw [hw.cell (block_lt_of_cell j1)]; exact j1, by rw [hw.cell (block_lt_of_cell q1)]; exact q1, hw⟩)
      clear j0 j1 q1
      go_region_held3 (fun w' => w'.cell? ⟨pb, 0, none⟩ = some (.int .i64 n) ∧ w'.cell? ⟨pb, 1, none⟩ = some (.slice (some ⟨b, off, none⟩) xs.length c) ∧ w'.cell? ⟨b, off + k, none⟩ = some (.int .i64 L) ∧ Below wk.heap.size wk w') (exact HK.out _ (by first | assumption | go_grown))
        (first | (go_at_call 92; (refine (l05Letter_any n L _ hn x0 x1 x2).mono ?_); rintro e w3 ⟨r3, rfl, hO3, hb3⟩; have hr3 : Below wk.heap.size wk w3 := Below.trans (show Below wk.heap.size wk _ by go_grown) (hb3.mono (Below.size (w := wk) (B := wk.heap.size) (by go_grown)))))
      have hO3' : OwS w3 (Iv wk.heap.size w3.heap.size) r3 (letterRows n L) := hO3
      clear hO3 hb3
      obtain ⟨A3, c3, e3, hl3, hm3, -⟩ := id (hO3'.sl fun b hb => hb.2)
      rw [letterRows_len] at hl3 e3
      subst e3
      unfold maxLen at hm3
      have hO4 := (hO2.below hr3 (Nat.le_refl _)).mono (S' := Iv w.heap.size w3.heap.size) fun b hb' => ⟨hb'.1, Nat.lt_of_lt_of_le hb'.2 hr3.size⟩
      have hwk := hr3.size
      have hb3 := hb2.trans (hr3.mono hb2.size)
      have hw1 := hb2.size
      clear hO2
      go_wp2_with fail
      go_loopw [7] (fun i wm => ∃ m : Nat, m ≤ n ∧ i = .int .i64 m ∧ OwS wm (Iv w.heap.size wm.heap.size) (.slice (some ⟨g, 0, none⟩) n c1) (mixR L rows m) ∧ OwS wm (Iv wk.heap.size w3.heap.size) (.slice A3 n c3) (letterRows n L) ∧ Hid (∀ j, j < m → (actW L (gl rows j)).length ≤ 20000) ∧ Below w.heap.size w wm ∧ w3.heap.size ≤ wm.heap.size) (fun i _ => n - (intOf i).toNat)
      case atStart => exact ⟨0, Nat.zero_le _, rfl, by rw [mixR_zero]; exact hO4, hO3', Lib.hid fun j hj => absurd hj (Nat.not_lt_zero _), hb3, Nat.le_refl _⟩
      case round =>
        obtain ⟨m, hm2, rfl, hO5, hO6, HS, hb5, hz5⟩ := hrel
        obtain ⟨wm, hwm⟩ : ∃ x, x = wr := ⟨_, rfl⟩
        subst hwm
        have hw5 := hb5.size
        by_cases hlm : m < n
        · have hlmI : (m : Int) < n := by omega
          obtain ⟨A4, c4, e4, -, -, -, hrow⟩ := id (hO5.sl fun b hb => hb.2)
          obtain ⟨b4, o4, e5, -, hrow⟩ := hrow (by rw [mixR_len]; omega)
          injection e4 with e4 z1 z2
          clear z1 z2
          rw [← e4] at e5
          injection e5 with e5
          injection e5 with e5 e6 _
          subst e4 e5 e6
          obtain ⟨u, q2, s2⟩ := hrow m (by rw [mixR_len]; omega)
          rw [mixR_gl _ _ _ (by omega)] at s2
          rw [Nat.zero_add] at q2
          obtain ⟨r0, r2⟩ : (gl rows m).length ≤ 20000 ∧ Hid (∀ x ∈ gl rows m, x ≠ 0 ∧ -(n : Int) ≤ x ∧ x ≤ n) := ⟨(HOK.out m hlm).1, Lib.hid (HOK.out m hlm).2⟩
          generalize hR : gl rows m = R at *
          obtain ⟨A5, c5, rfl, hl5, hm5, -, hcells5⟩ := id s2
          unfold maxLen at hm5
          have HC5 := Lib.hid hcells5
          obtain ⟨A6, c6, e6, -, -, -, hcells6⟩ := id (hO6.sl fun b hb => hb.2)
          have HC6 := Lib.hid hcells6
          injection e6 with e6 z1 z2
          clear z1 z2
          subst e6
          have hgs : g < wm.heap.size := by omega
          clear hrow hcells5 hcells6
          have hOn := Ow.empty wm
          have han := al1 wm (.cells #[] 2)
          go_wp2_with fail
          go_loopw [8, 9] (fun o i wi => ∃ (j : Nat), j ≤ R.length ∧ i = .int .i64 j ∧ Ow wi wm.heap.size wi.heap.size o (actW L (R.take j)) ∧ Below wm.heap.size wm wi) (fun _ i _ => R.length - (intOf i).toNat)
          case atStart => exact ⟨0, Nat.zero_le _, rfl, hOn, han⟩
          case round =>
            obtain ⟨j, hj, rfl, hO7, hb7⟩ := hrel
            have q3 : wr.cell? ⟨g, m, none⟩ = some (.slice A5 R.length c5) := by rw [hb7.cell hgs]; exact q2
            have hw7 := hb7.size
            by_cases hlj : j < R.length
            · have hljI : (j : Int) < R.length := by omega
              obtain ⟨b5, o5, rfl, hbB5, hcell5⟩ := HC5.out (by omega)
              have q4 : wr.cell? ⟨b5, o5 + j, none⟩ = some (.int .i64 (gi R j)) := by rw [hb7.cell (by simp only; omega)]; exact hcell5 j hlj
              obtain ⟨y0, y1, y2⟩ := r2.out _ (gi_mem hlj)
              have hsn := Lib.hid (actW_snoc (l := L) hlj)
              generalize hX : gi R j = X at *
              obtain ⟨t, ht⟩ : ∃ t : Nat, ab X = (t : Int) + 1 := ⟨(ab X - 1).toNat, by have := ab_pos' y0; omega⟩
              have htn : t < n := by unfold ab at ht; omega
              have htI : (t : Int) < n := by omega
              obtain ⟨b6, o6, rfl, hbB6, hcell6⟩ := HC6.out (by rw [letterRows_len]; omega)
              obtain ⟨u6, q5, s5⟩ := hcell6 t (by rw [letterRows_len]; exact htn)
              have q6 : wr.cell? ⟨b6, o6 + t, none⟩ = some u6 := by rw [hb7.cell (by simp only; omega)]; exact q5
              have s6 := s5.below hb7 hz5
              have hrow6 := letterRows_row (l := L) htn x0
              have hbd6 := imgL_bd (l := L) (g := (t : Int) + 1) (by omega) (by omega) (by omega)
              have hln6 := imgL_len L ((t : Int) + 1)
              have hIA := imgA_letter (n := n) (g := X) x0 y0 (by omega)
              rw [← hrow6] at hbd6 hln6
              have HBD := Lib.hid hbd6
              have hal := actW_len L (R.take j)
              rw [List.length_take] at hal
              clear hcell5 hcell6 hbd6 q5 s5 hrow6
              by_cases hX0 : 0 < X
              · have hgm : X - 1 = (t : Int) := by unfold ab at ht; omega
                have HIA := Lib.hid (show imgL L X = gl (letterRows n L) t by rw [← hIA, imgA, if_pos hX0, ht, show ((t : Int) + 1 - 1).toNat = t by omega])
                clear hIA ht
                go_wp2_with fail
                refine (l05Push_any _ _ (actW L (R.take j)) (gl (letterRows n L) t) wm.heap.size w3.heap.size _ hO7 s6 hz5 hw7 (by omega) (by omega) (fun y hy => by have := HBD.out y hy; omega)).mono ?_
                rintro e w8 ⟨r8, rfl, hO8, hb8⟩
                rw [← HIA.out, ← hsn.out] at hO8
                go_wp2_with fail
                go_roundw
                case rel => exact ⟨j + 1, by omega, by go_num, hO8, hb7.trans hb8⟩
                case measure => simp [intOf]; omega
              · have hgm : -X - 1 = (t : Int) := by unfold ab at ht; omega
                have HIA := Lib.hid (show imgL L X = inv (gl (letterRows n L) t) by rw [← hIA, imgA, if_neg hX0, ht, show ((t : Int) + 1 - 1).toNat = t by omega])
                clear hIA ht
                go_wp2_with fail
                refine (l03Inverse_any _ _ w3.heap.size _ s6 (Nat.le_trans hz5 hw7) (by omega) (fun y hy => by have := HBD.out y hy; omega)).mono ?_
                rintro e w8 ⟨r8, rfl, ho8, hb8⟩
                have hO8 := hO7.below hb8 (Nat.le_refl _)
                go_wp2_with fail
                obtain ⟨A8, c8, e8, hl8, hm8, -, hc8⟩ := id (ho8.sl (Nat.le_refl _))
                subst e8
                have hsrc : Src w8 u8 A8 (inv (gl (letterRows n L) t)) := by
                  refine ⟨fun hp => ?_⟩
                  obtain ⟨b9, o9, e9, hb9, hcc⟩ := hc8 hp
                  refine ⟨b9, o9, e9, fun e => ?_, hb9, hcc⟩
                  have h7 := hO7.2 b9 e
                  rcases ho8.1.2 with ⟨h8, _⟩ | ⟨g8, cap8, cur8, h8, h9, _⟩
                  · injection h8 with h8; rw [h8] at e9; cases e9
                  · injection h8 with h8 _ _
                    rw [e9] at h8
                    injection h8 with h8
                    injection h8 with h8
                    omega
                refine (l05Push_gen _ A8 c8 (actW L (R.take j)) (inv (gl (letterRows n L) t)) wm.heap.size _ (hO8.mono (Nat.le_refl _) hb8.size) hl8 hm8 hsrc (Nat.le_trans hw7 hb8.size) (by rw [inv_len]; omega) (by omega) (fun y hy => by have := HBD.out _ (inv_mem hy); omega)).mono ?_
                rintro e w9 ⟨r9, rfl, hO9, hb9⟩
                rw [← HIA.out, ← hsn.out] at hO9
                go_wp2_with fail
                go_roundw
                case rel => exact ⟨j + 1, by omega, by go_num, hO9, (hb7.trans (hb8.mono hw7)).trans hb9⟩
                case measure => simp [intOf]; omega
            · obtain rfl : j = R.length := by omega
              rw [List.take_of_length_le (Nat.le_refl _)] at hO7
              obtain ⟨A8, c8, e8, hl8, hm8, -, -⟩ := id (hO7.sl (Nat.le_refl _))
              subst e8
              have hb9 := hb5.trans (hb7.mono hw5)
              have hal := actW_len L R
              unfold maxLen at hm8
              by_cases hll : (actW L R).length ≤ 20000
              · have hli : ¬ 20000 < ((actW L R).length : Int) := by omega
                obtain ⟨g2, c2, x2, hv, hlo2, hhi2, q7, q8, hO8, hch⟩ := OwS.set_ (hO5.below hb7 (Nat.le_refl _)) m (by rw [mixR_len]; omega) hO7 hw7
                obtain rfl : g = g2 := by injection hv with hv _ _; injection hv with hv; injection hv with hv
                have hb10 := set_below_ (x := .slice A8 (actW L R).length c8) (p := ⟨g, m, none⟩) hlo hb9
                have hO10 := (hO6.below hb7 hz5).keep (w' := wr.setCell ⟨g, m, none⟩ (.slice A8 (actW L R).length c8)) fun y hy => Below.heap_setCell _ _ _ _ (by have := hy.1; simp only; omega)
                rw [← hR, mixR_set _ _ _ (by omega), hR] at hO8
                have HO8 := Lib.hid hO8
                have HO10 := Lib.hid hO10
                clear hv hO8 hO10 hch
                go_wp2_with fail
                go_roundw
                case rel =>
                  refine ⟨m + 1, by omega, by go_num, HO8.out, HO10.out, Lib.hid fun j hj => ?_, hb10, by simp [World.setCell]; omega⟩
                  by_cases hjm : j < m
                  · exact HS.out j hjm
                  · obtain rfl : j = m := by omega
                    rw [hR]; exact hll
                case measure => simp [intOf]; omega
              · have hli : 20000 < ((actW L R).length : Int) := by omega
                have HN := Lib.hid (HE.out.trans (actRows_off hlt (by rw [hL, allLe_iff]; exact fun hh => by have := hh m (by omega); rw [hR] at this; omega)))
                go_wp2_with fail
                go_ret2
                exact ⟨_, by rw [HN.out]; rfl, by rw [HN.out]; exact OwS.nil _ _, hb9⟩
        · obtain rfl : m = n := by omega
          have hlmI : ¬ (m : Int) < m := by omega
          rw [show mixR L rows m = rows.map (actW L) by rw [← hrn, mixR_all]] at hO5
          have hok2 := okRows_act (l := L) x0 x1 x2 ⟨hrn, HOK.out⟩ HS.out
          have HE2 := Lib.hid (HE.out.trans (actRows_on hlt (by rw [hL, allLe_iff, hrn]; exact HS.out)))
          rw [hL] at HE2
          go_wp2_with fail
          go_roundw
          case rel => exact ⟨k + 1, _, by omega, by go_num, hO5, hok2, HE2, hb5⟩
          case measure => simp [intOf]; omega
    · obtain rfl : k = xs.length := by omega
      have HN := Lib.hid (HE.out.trans (show actRows rows (xs.drop xs.length) = some rows by rw [List.drop_length]; rfl))
      go_wp2_with fail
      go_ret2
      exact ⟨_, by rw [HN.out]; rfl, by rw [HN.out]; exact hO2, hb2⟩
end Go.Proofs.Ytcoocjdkppdlmaa
