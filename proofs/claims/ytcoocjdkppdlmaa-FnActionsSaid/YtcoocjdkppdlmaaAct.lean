/-
  Contracts: letters and words put to the end of a reduced word; the action of one letter of a braid (the program's pushed, pushedWord, letterImages, acted).
-/
import Derived.Test.YtcoocjdkppdlmaaCore
import Derived.Test.YtcoocjdkppdlmaaMain
namespace Go.Proofs.Ytcoocjdkppdlmaa
set_option maxRecDepth 10000
open Go.RowKit

theorem pushAll_mem_bd {out xs : List Int} {m : Int} (h : ∀ x ∈ out, -m ≤ x ∧ x ≤ m) (h2 : ∀ x ∈ xs, -m ≤ x ∧ x ≤ m) : ∀ x ∈ pushAll out xs, -m ≤ x ∧ x ≤ m := fun x hx => by
  rcases pushAll_mem hx with hx | hx
  · exact h x hx
  · exact h2 x hx
/-- The images of the generators k and k + 1 under a letter. -/
def im1 (l : Int) : List Int := if 0 < l then [ab l, ab l + 1, -ab l] else [ab l + 1]
def im2 (l : Int) : List Int := if 0 < l then [ab l] else [-ab l - 1, ab l, ab l + 1]
/-- The image of a letter of a free word. -/
def imgL (l g : Int) : List Int :=
  if ab g = ab l then (if 0 < g then im1 l else inv (im1 l)) else if ab g = ab l + 1 then (if 0 < g then im2 l else inv (im2 l)) else [g]
def actW (l : Int) (xs : List Int) : List Int := pushAll [] (xs.flatMap (imgL l))
theorem imgL_len (l g : Int) : (imgL l g).length ≤ 3 := by
  unfold imgL im1 im2
  split
  · split <;> split <;> simp [inv]
  · split
    · split <;> split <;> simp [inv]
    · simp
theorem flatI_len (l : Int) (xs : List Int) : (xs.flatMap (imgL l)).length ≤ 3 * xs.length := by
  induction xs with
  | nil => simp
  | cons a r ih => rw [List.flatMap_cons, List.length_append, List.length_cons]; have := imgL_len l a; omega
theorem actW_len (l : Int) (xs : List Int) : (actW l xs).length ≤ 3 * xs.length := by
  have := pushAll_len [] (xs.flatMap (imgL l)); have h2 := flatI_len l xs; rw [List.length_nil, Nat.zero_add] at this; unfold actW; omega
theorem im_bd {l : Int} (h1 : -11 ≤ l) (h2 : l ≤ 11) : (∀ x ∈ im1 l, -12 ≤ x ∧ x ≤ 12) ∧ (∀ x ∈ im2 l, -12 ≤ x ∧ x ≤ 12) := by
  have hk : 0 ≤ ab l ∧ ab l ≤ 11 := by unfold ab; omega
  constructor
  · intro x hx
    unfold im1 at hx
    split at hx <;> simp at hx <;> omega
  · intro x hx
    unfold im2 at hx
    split at hx <;> simp at hx <;> omega
theorem imgL_bd {l g : Int} (h1 : -11 ≤ l) (h2 : l ≤ 11) (h3 : -12 ≤ g ∧ g ≤ 12) : ∀ x ∈ imgL l g, -12 ≤ x ∧ x ≤ 12 := by
  obtain ⟨b1, b2⟩ := im_bd h1 h2
  intro x hx
  unfold imgL at hx
  split at hx
  · split at hx
    · exact b1 x hx
    · have := b1 _ (inv_mem hx); omega
  · split at hx
    · split at hx
      · exact b2 x hx
      · have := b2 _ (inv_mem hx); omega
    · simp at hx; omega
theorem actW_bd {l : Int} {xs : List Int} (h1 : -11 ≤ l) (h2 : l ≤ 11) (h : ∀ x ∈ xs, -12 ≤ x ∧ x ≤ 12) : ∀ x ∈ actW l xs, -12 ≤ x ∧ x ≤ 12 := fun x hx => by
  have := pushAll_mem hx
  rcases this with this | this
  · simp at this
  · obtain ⟨g, hg, hx⟩ := List.mem_flatMap.1 this
    exact imgL_bd h1 h2 (h g hg) x hx
theorem actW_snoc {l : Int} {xs : List Int} {k : Nat} (h : k < xs.length) : actW l (xs.take (k + 1)) = pushAll (actW l (xs.take k)) (imgL l (gi xs k)) := by
  rw [take_gi h, actW, List.flatMap_append, pushAll_append]; simp [actW]
set_option maxHeartbeats 1600000 in
theorem pushed_any (v : Value) (xs : List Int) (k : Int) (lo : Nat) (w : World) (hO : Ow w lo w.heap.size v xs) (hlo : lo ≤ w.heap.size) (hsz : xs.length ≤ 900000000) (hk : -1000 ≤ k ∧ k ≤ 1000) :
    Calls Try.prog 86 #[v, .int .i64 k] w fun e w' => ∃ r, e = .returned r ∧ Ow w' lo w'.heap.size r (push xs k) ∧ Below lo w w' := by
  obtain ⟨k1, k2⟩ := hk
  rcases hO.form with ⟨rfl, rfl⟩ | ⟨g, cap, rfl, hlo2, hhi, hcap, hcap2, hcl⟩
  · have HST := Lib.hid (show push [] k = [k] by rw [push_on (.inl rfl)]; rfl)
    go_enter Try.func86, Try.ntmps86
    go_wp2_with (at_builtin; refine wpList_append_one rfl _ _ rfl w _ _ _ _ k rfl rfl hO hlo (by simp) ?_; intro v1 w2 hO2 hg2 _)
    have hbw := hO.grown hg2 (Nat.le_refl _) hlo
    go_ret
    exact ⟨_, rfl, by rw [HST.out]; exact hO2, hbw⟩
  · rcases Nat.eq_zero_or_pos xs.length with h0 | hpos
    · obtain rfl := List.eq_nil_of_length_eq_zero h0
      have HST := Lib.hid (show push [] k = [k] by rw [push_on (.inl rfl)]; rfl)
      clear hcl h0
      go_enter Try.func86, Try.ntmps86
      go_wp2_with (at_builtin; refine wpList_append_one rfl _ _ rfl w _ _ _ _ k rfl rfl hO hlo (by simp) ?_; intro v1 w2 hO2 hg2 _)
      have hbw := hO.grown hg2 (Nat.le_refl _) hlo
      go_ret
      exact ⟨_, rfl, by rw [HST.out]; exact hO2, hbw⟩
    · have q2 := hcl (xs.length - 1) (by omega)
      clear hcl
      by_cases he : gi xs (xs.length - 1) = -k
      · have heb : (gi xs (xs.length - 1) == -k) = true := by simp [he]
        have HST := Lib.hid (push_back hpos he)
        have hO2 := hO.pop hpos
        clear he
        go_enter Try.func86, Try.ntmps86
        go_wp2
        go_ret
        exact ⟨_, rfl, by rw [HST.out]; exact hO2, Below.refl _ _⟩
      · have heb : (gi xs (xs.length - 1) == -k) = false := by simp [he]
        have HST := Lib.hid (push_on (k := k) (.inr he))
        clear he
        go_enter Try.func86, Try.ntmps86
        go_wp2_with (at_builtin; refine wpList_append_one rfl _ _ rfl w _ _ _ _ k rfl rfl hO hlo (by omega) ?_; intro v1 w2 hO2 hg2 _)
        have hbw := hO.grown hg2 (Nat.le_refl _) hlo
        go_ret
        exact ⟨_, rfl, by rw [HST.out]; exact hO2, hbw⟩
theorem inv_take_snoc {xs : List Int} {k : Nat} (h : k < xs.length) : (inv xs).take (k + 1) = (inv xs).take k ++ [-gi xs (xs.length - 1 - k)] := by
  rw [take_gi (by rw [inv_len]; exact h)]
  congr 2
  rw [gi_eq (by rw [inv_len]; exact h), gi_eq (by omega)]
  simp [inv]
set_option maxHeartbeats 1600000 in
theorem pushedWord_any (u v : Value) (os xs : List Int) (p : Bool) (lo B : Nat) (w : World) (hu : Ow w lo w.heap.size u os) (h : Sl w B v xs) (hB : B ≤ lo) (hlo : lo ≤ w.heap.size) (hsz : xs.length ≤ 1000000) (hso : os.length ≤ 1000000) (hbd : ∀ x ∈ xs, -1000 ≤ x ∧ x ≤ 1000) :
    Calls Try.prog 52 #[u, v, .bool p] w fun e w' => ∃ r, e = .returned r ∧ Ow w' lo w'.heap.size r (pushAll os (if p = true then xs else inv xs)) ∧ Below lo w w' := by
  obtain ⟨A, c, rfl, hl, hm, _, hcells⟩ := h
  unfold maxLen at hm
  have HC := Lib.hid hcells
  have HBD := Lib.hid hbd
  clear hcells hbd
  cases p
  · go_enter Try.func52, Try.ntmps52
    go_wp2
    go_loopw [0, 10] (fun o i wr => ∃ k : Nat, k ≤ xs.length ∧ i = .int .i64 k ∧ Ow wr lo wr.heap.size o (pushAll os ((inv xs).take k)) ∧ Below lo w wr) (fun _ i _ => xs.length - (intOf i).toNat)
    case atStart => exact ⟨0, Nat.zero_le _, rfl, hu, Below.refl _ _⟩
    case round =>
      obtain ⟨k, hk, rfl, hO, hb⟩ := hrel
      by_cases hlt : k < xs.length
      · obtain ⟨b, off, rfl, hbB, hcell⟩ := HC.out (by omega)
        have q1 : wr.cell? ⟨b, off + (xs.length - 1 - k), none⟩ = some (.int .i64 (gi xs (xs.length - 1 - k))) := by rw [hb.cell (by simp only; omega)]; exact hcell _ (by omega)
        obtain ⟨y1, y2⟩ := HBD.out _ (gi_mem (show xs.length - 1 - k < xs.length by omega))
        have hrl := pushAll_len os ((inv xs).take k)
        rw [List.length_take] at hrl
        have HST := Lib.hid (show pushAll os ((inv xs).take (k + 1)) = push (pushAll os ((inv xs).take k)) (-gi xs (xs.length - 1 - k)) by rw [inv_take_snoc hlt]; exact pushAll_snoc _ _ _)
        have hsz2 : lo ≤ wr.heap.size := Nat.le_trans hlo hb.size
        have e1 : (xs.length : Int) - 1 - k = ((xs.length - 1 - k : Nat) : Int) := by omega
        clear hcell
        go_wp2_with fail
        refine (pushed_any _ _ (-gi xs (xs.length - 1 - k)) lo _ hO hsz2 (by omega) (by omega)).mono ?_
        rintro e w2 ⟨r2, rfl, hO2, hb2⟩
        go_wp2_with fail
        go_roundw
        case rel => exact ⟨k + 1, by omega, by go_num, by rw [HST.out]; exact hO2, hb.trans hb2⟩
        case measure => simp [intOf]; omega
      · obtain rfl : k = xs.length := by omega
        rw [List.take_of_length_le (by rw [inv_len]; exact Nat.le_refl _)] at hO
        go_wp2
        go_ret
        exact ⟨_, rfl, hO, hb⟩
  · go_enter Try.func52, Try.ntmps52
    go_wp2
    go_loopw [0, 10] (fun o i wr => ∃ k : Nat, k ≤ xs.length ∧ i = .int .i64 k ∧ Ow wr lo wr.heap.size o (pushAll os (xs.take k)) ∧ Below lo w wr) (fun _ i _ => xs.length - (intOf i).toNat)
    case atStart => exact ⟨0, Nat.zero_le _, rfl, hu, Below.refl _ _⟩
    case round =>
      obtain ⟨k, hk, rfl, hO, hb⟩ := hrel
      by_cases hlt : k < xs.length
      · obtain ⟨b, off, rfl, hbB, hcell⟩ := HC.out (by omega)
        have q1 : wr.cell? ⟨b, off + k, none⟩ = some (.int .i64 (gi xs k)) := by rw [hb.cell (by simp only; omega)]; exact hcell k hlt
        obtain ⟨y1, y2⟩ := HBD.out _ (gi_mem hlt)
        have hrl := pushAll_len os (xs.take k)
        rw [List.length_take] at hrl
        have HST := Lib.hid (pushAll_take (out := os) hlt)
        have hsz2 : lo ≤ wr.heap.size := Nat.le_trans hlo hb.size
        clear hcell
        go_wp2_with fail
        refine (pushed_any _ _ (gi xs k) lo _ hO hsz2 (by omega) (by omega)).mono ?_
        rintro e w2 ⟨r2, rfl, hO2, hb2⟩
        go_wp2_with fail
        go_roundw
        case rel => exact ⟨k + 1, by omega, by go_num, by rw [HST.out]; exact hO2, hb.trans hb2⟩
        case measure => simp [intOf]; omega
      · obtain rfl : k = xs.length := by omega
        rw [List.take_of_length_le (Nat.le_refl _)] at hO
        go_wp2
        go_ret
        exact ⟨_, rfl, hO, hb⟩
theorem sl_lit (w : World) (ys : List Int) (h : ys.length ≤ 1000) : Sl (w.alloc (.cells (vals ys).toArray 2)) (w.heap.size + 1) (.slice (some ⟨w.heap.size, 0, none⟩) ys.length ys.length) ys := by
  refine ⟨_, _, rfl, Nat.le_refl _, by simp only [maxLen]; omega, by simp, fun hp => ⟨w.heap.size, 0, rfl, by omega, fun k hk => ?_⟩⟩
  rw [World.cell?_alloc_new]
  simp [vals, gi_some hk]
theorem sl_lit3 (w : World) (a b c : Int) : Sl (w.alloc (.cells #[.int .i64 a, .int .i64 b, .int .i64 c] 2)) (w.heap.size + 1) (.slice (some ⟨w.heap.size, 0, none⟩) 3 3) [a, b, c] := sl_lit w [a, b, c] (by simp)
theorem sl_lit1 (w : World) (a : Int) : Sl (w.alloc (.cells #[.int .i64 a] 2)) (w.heap.size + 1) (.slice (some ⟨w.heap.size, 0, none⟩) 1 1) [a] := sl_lit w [a] (by simp)
set_option maxHeartbeats 800000 in
theorem letterImages_any (l : Int) (w : World) (h1 : -11 ≤ l) (h2 : l ≤ 11) :
    Calls Try.prog 93 #[.int .i64 l] w fun e w' => ∃ r1 r2, e = .returned (.tuple #[r1, r2]) ∧ Sl w' w'.heap.size r1 (im1 l) ∧ Sl w' w'.heap.size r2 (im2 l) ∧ Below w.heap.size w w' := by
  have hk : 0 ≤ ab l ∧ ab l ≤ 11 := by unfold ab; omega
  obtain ⟨k1, k2⟩ := hk
  by_cases hp : 0 < l
  · have e1 := Lib.hid (show im1 l = [ab l, ab l + 1, -ab l] by rw [im1, if_pos hp])
    have e2 := Lib.hid (show im2 l = [ab l] by rw [im2, if_pos hp])
    go_enter Try.func93, Try.ntmps93
    go_wp2_with (go_at_call 53; refine (size_any _ _ (by omega) (by omega)).mono ?_; rintro e w' ⟨rfl, rfl⟩)
    go_ret2
    refine ⟨_, _, rfl, ?_, ?_, al2 _ _ _⟩
    · rw [e1.out]; exact ((sl_lit3 w _ _ _).below (al1 _ _) (by simp)).mono (by simp)
    · rw [e2.out]
      have := sl_lit1 (w.alloc (.cells #[.int .i64 (ab l), .int .i64 (ab l + 1), .int .i64 (-ab l)] 2)) (ab l)
      rw [World.size_alloc] at this
      exact this.mono (by rw [World.size_alloc, World.size_alloc]; exact Nat.le_refl _)
  · have e1 := Lib.hid (show im1 l = [ab l + 1] by rw [im1, if_neg hp])
    have e2 := Lib.hid (show im2 l = [-ab l - 1, ab l, ab l + 1] by rw [im2, if_neg hp])
    go_enter Try.func93, Try.ntmps93
    go_wp2_with (go_at_call 53; refine (size_any _ _ (by omega) (by omega)).mono ?_; rintro e w' ⟨rfl, rfl⟩)
    go_ret2
    refine ⟨_, _, rfl, ?_, ?_, al2 _ _ _⟩
    · rw [e1.out]; exact ((sl_lit1 w _).below (al1 _ _) (by simp)).mono (by simp)
    · rw [e2.out]
      have := sl_lit3 (w.alloc (.cells #[.int .i64 (ab l + 1)] 2)) (-ab l - 1) (ab l) (ab l + 1)
      rw [World.size_alloc] at this
      exact this.mono (by rw [World.size_alloc, World.size_alloc]; exact Nat.le_refl _)
theorem imgL_1 {l g : Int} (h : ab g = ab l) : imgL l g = if decide (0 < g) = true then im1 l else inv (im1 l) := by
  rw [imgL, if_pos h]; by_cases hg : 0 < g <;> simp [hg]
theorem imgL_2 {l g : Int} (h : ¬ ab g = ab l) (h2 : ab g = ab l + 1) : imgL l g = if decide (0 < g) = true then im2 l else inv (im2 l) := by
  rw [imgL, if_neg h, if_pos h2]; by_cases hg : 0 < g <;> simp [hg]
theorem imgL_3 {l g : Int} (h : ¬ ab g = ab l) (h2 : ¬ ab g = ab l + 1) : imgL l g = [g] := by rw [imgL, if_neg h, if_neg h2]
theorem im_len (l : Int) : (im1 l).length ≤ 3 ∧ (im2 l).length ≤ 3 := by unfold im1 im2; split <;> simp
set_option maxHeartbeats 1600000 in
theorem acted_any (v : Value) (xs : List Int) (l : Int) (B : Nat) (w : World) (h : Sl w B v xs) (hB : B ≤ w.heap.size) (hsz : xs.length ≤ 20000) (hbd : ∀ x ∈ xs, -12 ≤ x ∧ x ≤ 12) (h1 : -11 ≤ l) (h2 : l ≤ 11) :
    Calls Try.prog 59 #[v, .int .i64 l] w fun e w' => ∃ r, e = .returned r ∧ Ow w' w.heap.size w'.heap.size r (actW l xs) ∧ Below w.heap.size w w' := by
  obtain ⟨A, c, rfl, hl, hm, _, hcells⟩ := id h
  unfold maxLen at hm
  have HC := Lib.hid hcells
  have HBD := Lib.hid hbd
  have hk : 0 ≤ ab l ∧ ab l ≤ 11 := by unfold ab; omega
  obtain ⟨k1, k2⟩ := hk
  obtain ⟨ib1, ib2⟩ := im_bd h1 h2
  have IB1 := Lib.hid ib1
  have IB2 := Lib.hid ib2
  obtain ⟨il1, il2⟩ := im_len l
  clear hcells hbd ib1 ib2
  go_enter Try.func59, Try.ntmps59
  go_wp2_with (go_at_call 53; refine (size_any _ _ (by omega) (by omega)).mono ?_; rintro e w' ⟨rfl, rfl⟩)
  refine (letterImages_any l _ h1 h2).mono ?_
  rintro e w1 ⟨r1, r2, rfl, s1, s2, hb1⟩
  have hO := Ow.empty w1
  have ha := al1 w1 (.cells #[] 2)
  go_wp2_with fail
  go_loopw [8, 21] (fun o i wr => ∃ k : Nat, k ≤ xs.length ∧ i = .int .i64 k ∧ Ow wr w1.heap.size wr.heap.size o (actW l (xs.take k)) ∧ Below w1.heap.size w1 wr) (fun _ i _ => xs.length - (intOf i).toNat)
  case atStart => exact ⟨0, Nat.zero_le _, rfl, hO, ha⟩
  case round =>
    obtain ⟨k, hk, rfl, hO, hb⟩ := hrel
    by_cases hlt : k < xs.length
    · obtain ⟨b, off, rfl, hbB, hcell⟩ := HC.out (by omega)
      have q1 : wr.cell? ⟨b, off + k, none⟩ = some (.int .i64 (gi xs k)) := by rw [hb.cell (by have := hb1.size; simp only; omega), hb1.cell (by simp only; omega)]; exact hcell k hlt
      obtain ⟨y1, y2⟩ := HBD.out _ (gi_mem hlt)
      have hg : 0 ≤ ab (gi xs k) ∧ ab (gi xs k) ≤ 12 := by unfold ab; omega
      obtain ⟨g1, g2⟩ := hg
      have hal := actW_len l (xs.take k)
      rw [List.length_take] at hal
      have HS := Lib.hid (actW_snoc (l := l) hlt)
      have hsz2 : w1.heap.size ≤ wr.heap.size := hb.size
      clear hcell
      by_cases c1 : ab (gi xs k) = ab l
      · have c1b : (ab (gi xs k) == ab l) = true := by simp [c1]
        have HI := Lib.hid (imgL_1 c1)
        clear c1
        go_wp2_with (go_at_call 53; refine (size_any _ _ (by omega) (by omega)).mono ?_; rintro e w' ⟨rfl, rfl⟩)
        refine (pushedWord_any _ _ _ (im1 l) (decide (0 < gi xs k)) w1.heap.size w1.heap.size _ hO (s1.below hb (Nat.le_refl _)) (Nat.le_refl _) hsz2 (by omega) (by omega) (fun x hx => by have := IB1.out x hx; omega)).mono ?_
        rintro e w2 ⟨r3, rfl, hO2, hb2⟩
        go_wp2_with fail
        go_roundw
        case rel => exact ⟨k + 1, by omega, by go_num, by rw [HS.out, HI.out]; exact hO2, hb.trans hb2⟩
        case measure => simp [intOf]; omega
      · have c1b : (ab (gi xs k) == ab l) = false := by simp [c1]
        by_cases c2 : ab (gi xs k) = ab l + 1
        · have c2b : (ab (gi xs k) == ab l + 1) = true := by simp [c2]
          have HI := Lib.hid (imgL_2 c1 c2)
          clear c1 c2
          go_wp2_with (go_at_call 53; refine (size_any _ _ (by omega) (by omega)).mono ?_; rintro e w' ⟨rfl, rfl⟩)
          refine (pushedWord_any _ _ _ (im2 l) (decide (0 < gi xs k)) w1.heap.size w1.heap.size _ hO (s2.below hb (Nat.le_refl _)) (Nat.le_refl _) hsz2 (by omega) (by omega) (fun x hx => by have := IB2.out x hx; omega)).mono ?_
          rintro e w2 ⟨r3, rfl, hO2, hb2⟩
          go_wp2_with fail
          go_roundw
          case rel => exact ⟨k + 1, by omega, by go_num, by rw [HS.out, HI.out]; exact hO2, hb.trans hb2⟩
          case measure => simp [intOf]; omega
        · have c2b : (ab (gi xs k) == ab l + 1) = false := by simp [c2]
          have HI := Lib.hid (imgL_3 c1 c2)
          clear c1 c2
          go_wp2_with (go_at_call 53; refine (size_any _ _ (by omega) (by omega)).mono ?_; rintro e w' ⟨rfl, rfl⟩)
          refine (pushed_any _ _ (gi xs k) w1.heap.size _ hO hsz2 (by omega) (by omega)).mono ?_
          rintro e w2 ⟨r3, rfl, hO2, hb2⟩
          go_wp2_with fail
          go_roundw
          case rel => exact ⟨k + 1, by omega, by go_num, by rw [HS.out, HI.out]; exact hO2, hb.trans hb2⟩
          case measure => simp [intOf]; omega
    · obtain rfl : k = xs.length := by omega
      rw [List.take_length] at hO
      go_wp2
      go_ret
      exact ⟨_, rfl, hO.mono hb1.size (Nat.le_refl _), hb1.trans (hb.mono hb1.size)⟩
end Go.Proofs.Ytcoocjdkppdlmaa
