/-
  Contracts: IsAction of the program and of the reference.
-/
import Derived.Test.YtcoocjdkppdlmaaPl
import Derived.Deep.RegionHeld3
namespace Go.Proofs.Ytcoocjdkppdlmaa
set_option maxRecDepth 10000
open Go.RowKit

set_option maxHeartbeats 400000 in
/-- l00Same of slices that read as xs and ys. -/
theorem l00Same_any (v1 v2 : Value) (xs ys : List Int) (B1 B2 : Nat) (w : World) (h1 : Sl w B1 v1 xs) (h2 : Sl w B2 v2 ys) :
    Calls Try.prog 60 #[v1, v2] w fun e w' => e = .returned (.bool (decide (xs = ys))) ∧ ∃ n, w' = w.drewN n := by
  obtain ⟨A1, c1, rfl, hl1, hm1, _, hc1⟩ := h1
  obtain ⟨A2, c2, rfl, hl2, hm2, _, hc2⟩ := h2
  unfold maxLen at hm1 hm2
  by_cases hlen : xs.length = ys.length
  · have hb : ((xs.length : Int) != (ys.length : Int)) = false := by rw [hlen]; simp
    have HL := Lib.hid hlen
    have HC1 := Lib.hid hc1
    have HC2 := Lib.hid hc2
    clear hlen hc1 hc2
    go_enter Try.func60, Try.ntmps60
    go_wp2
    go_loopw [5] (fun i wr => ∃ k : Nat, k ≤ xs.length ∧ i = .int .i64 k ∧ (∀ j, j < k → gi xs j = gi ys j) ∧ ∃ n, wr = w.drewN n) (fun i _ => xs.length - (intOf i).toNat)
    case atStart => exact ⟨0, Nat.zero_le _, rfl, fun j h => absurd h (Nat.not_lt_zero _), 0, rfl⟩
    case round =>
      obtain ⟨k, hk, rfl, heq, n, rfl⟩ := hrel
      by_cases hlt : k < xs.length
      · obtain ⟨b1, o1, rfl, hb1, hcell1⟩ := HC1.out (by omega)
        obtain ⟨b2, o2, rfl, hb2, hcell2⟩ := HC2.out (by have := HL.out; omega)
        have hlt2 : k < ys.length := by have := HL.out; omega
        have q1 := hcell1 k hlt
        have q2 := hcell2 k hlt2
        clear hcell1 hcell2
        have HE := Lib.hid heq
        clear heq
        by_cases hx : gi xs k = gi ys k
        · have hxb : (gi xs k != gi ys k) = false := by simp [hx]
          have HX := Lib.hid hx
          clear hx
          go_wp2
          go_quiet (fail)
          go_wp2
          go_roundw
          case rel =>
            refine ⟨k + 1, by omega, by go_num, fun j hj => ?_, _, rfl⟩
            by_cases hjk : j < k
            · exact HE.out j hjk
            · obtain rfl : j = k := by omega
              exact HX.out
          case measure => simp [intOf]; omega
        · have hxb : (gi xs k != gi ys k) = true := by simp [hx]
          have hne : ¬ xs = ys := fun e => hx (by rw [e])
          have hnb : decide (xs = ys) = false := by simp [hne]
          have HNB := Lib.hid hnb
          clear hx hne hnb
          go_wp2
          go_quiet (fail)
          go_wp2
          go_ret
          exact ⟨ret_bool HNB.out.symm, quiet_end _ _ _⟩
      · have HE := Lib.hid heq
        clear heq
        go_wp2
        go_ret
        have hxy : xs = ys := gi_ext HL.out fun j hj => HE.out j (by omega)
        exact ⟨ret_bool (by simp [hxy]), _, rfl⟩
  · have hb : ((xs.length : Int) != (ys.length : Int)) = true := by simp; omega
    have hne : decide (xs = ys) = false := by simp; exact fun e => hlen (by rw [e])
    have HNB := Lib.hid hne
    clear hlen hne hc1 hc2
    go_enter Try.func60, Try.ntmps60
    go_wp2
    go_ret
    exact ⟨ret_bool HNB.out.symm, 0, rfl⟩

theorem l00Same_is {v1 v2 : Value} {xs ys : List Int} {B1 B2 : Nat} {w : World} {T : Bool} (hT : decide (xs = ys) = T) (h1 : Sl w B1 v1 xs) (h2 : Sl w B2 v2 ys) :
    Calls Try.prog 60 #[v1, v2] w fun e w' => e = .returned (.bool T) ∧ ∃ n, w' = w.drewN n := by rw [← hT]; exact l00Same_any _ _ _ _ _ _ _ h1 h2
theorem push_len_cases (out : List Int) (k : Int) : push out k = out ++ [k] ∨ (push out k).length + 1 ≤ out.length := by
  unfold push
  split
  · right
    rename_i h
    cases out with
    | nil => simp at h
    | cons a r => simp
  · left; rfl
theorem pushAll_len_eq {out xs : List Int} (h : (pushAll out xs).length = out.length + xs.length) : pushAll out xs = out ++ xs := by
  induction xs generalizing out with
  | nil => simp [pushAll]
  | cons x xs ih =>
    have h1 : pushAll out (x :: xs) = pushAll (push out x) xs := rfl
    rw [h1] at h ⊢
    rcases push_len_cases out x with h2 | h2
    · rw [h2] at h ⊢
      rw [ih (by simp at h ⊢; omega)]
      simp
    · have := pushAll_len (push out x) xs
      simp only [List.length_cons] at h
      omega
theorem red_len_iff (xs : List Int) : red xs = xs ↔ (red xs).length = xs.length :=
  ⟨fun h => by rw [h], fun h => by have := pushAll_len_eq (out := []) (xs := xs) (by simpa [red] using h); simpa [red] using this⟩
def prodGo (out : List Int) : List (List Int) → Option (List Int)
  | [] => some out
  | xs :: r => if red xs = xs then prodGo (pushAll out xs) r else none
theorem prodGo_on {out : List Int} {xss : List (List Int)} {k : Nat} (hk : k < xss.length) (h : red (gl xss k) = gl xss k) : prodGo out (xss.drop k) = prodGo (pushAll out (gl xss k)) (xss.drop (k + 1)) := by rw [drop_gl hk, prodGo, if_pos h]
theorem prodGo_off {out : List Int} {xss : List (List Int)} {k : Nat} (hk : k < xss.length) (h : ¬ red (gl xss k) = gl xss k) : prodGo out (xss.drop k) = none := by rw [drop_gl hk, prodGo, if_neg h]
/-- Are the letters 1, 2, ..? -/
def rising (p : List Int) : Bool := (List.range p.length).all fun i => gi p i == (i : Int) + 1
theorem rising_iff {p : List Int} : rising p = true ↔ ∀ i, i < p.length → gi p i = (i : Int) + 1 := by simp [rising]
theorem rising_no {p : List Int} {i : Nat} (hi : i < p.length) (h : gi p i ≠ (i : Int) + 1) : rising p = false := by
  rw [← Bool.not_eq_true]; intro h2; exact h (rising_iff.1 h2 i hi)
theorem rising_take {p : List Int} {j : Nat} (h : j < p.length) : rising (p.take (j + 1)) = (rising (p.take j) && (gi p j == (j : Int) + 1)) := by
  have hg : ∀ i, i < j + 1 → gi (p.take (j + 1)) i = gi p i := fun i hi => by rw [gi_eq (by simp; omega), gi_eq (by omega)]; simp
  have hg2 : ∀ i, i < j → gi (p.take j) i = gi p i := fun i hi => by rw [gi_eq (by simp; omega), gi_eq (by omega)]; simp
  rw [Bool.eq_iff_iff, Bool.and_eq_true, rising_iff, rising_iff, beq_iff_eq]
  constructor
  · intro h1
    refine ⟨fun i hi => ?_, ?_⟩
    · have hi' : i < j := by simp at hi; omega
      rw [hg2 i hi', ← hg i (by omega)]; exact h1 i (by simp; omega)
    · rw [← hg j (by omega)]; exact h1 j (by simp; omega)
  · rintro ⟨h1, h2⟩ i hi
    have hi' : i < j + 1 := by simp at hi; omega
    rw [hg i hi']
    by_cases hij : i < j
    · rw [← hg2 i hij]; exact h1 i (by simp; omega)
    · obtain rfl : i = j := by omega
      exact h2
def isAct (xss : List (List Int)) : Bool := okImgs xss && (match prodGo [] xss with | none => false | some p => (plGo [] xss).isSome && (decide (p.length = xss.length) && rising p))
set_option maxHeartbeats 3200000 in
theorem impl_IsAction_any (v : Value) (xss : List (List Int)) (B : Nat) (w : World) (h : SlS w B v xss) (hB : B ≤ w.heap.size) :
    Calls Try.prog 30 #[v] w fun e w' => e = .returned (.bool (isAct xss)) ∧ Below w.heap.size w w' := by
  obtain ⟨A, c, rfl, hl, hm, -, hcells⟩ := id h
  unfold maxLen at hm
  have HC := Lib.hid hcells
  clear hcells
  cases hok : okImgs xss
  · have H1 := Lib.hid (show isAct xss = false by simp [isAct, hok])
    go_enter Try.func30, Try.ntmps30
    go_wp2_with (go_at_call 50; refine (areImages_any _ xss B _ h hB).mono ?_; rintro e w1 ⟨rfl, hb⟩)
    go_ret
    exact ⟨ret_bool H1.out.symm, hb⟩
  · have HOK := Lib.hid hok
    have hn12 := (okImgs_parts hok).1
    go_enter Try.func30, Try.ntmps30
    go_wp2_with fail
    refine (areImages_any _ xss B _ h hB).mono ?_
    rintro e w1 ⟨rfl, hb1⟩
    have hO := Ow.empty w1
    have ha := al1 w1 (.cells #[] 2)
    go_wp2_with fail
    go_loopw [3, 16] (fun o i wr => ∃ (k : Nat) (out : List Int), k ≤ xss.length ∧ i = .int .i64 k ∧ Ow wr w1.heap.size wr.heap.size o out ∧ out.length ≤ 20000 * k ∧ (∀ x ∈ out, -12 ≤ x ∧ x ≤ 12) ∧ prodGo [] xss = prodGo out (xss.drop k) ∧ Below w1.heap.size w1 wr) (fun _ i _ => xss.length - (intOf i).toNat)
    case atStart => exact ⟨0, [], Nat.zero_le _, rfl, hO, by simp, by simp, rfl, ha⟩
    case round =>
      obtain ⟨k, out, hk, rfl, hO, hol, hox, he, hb⟩ := hrel
      have HE := Lib.hid he
      have HOX := Lib.hid hox
      have hb3 := hb1.trans (hb.mono hb1.size)
      clear he hox
      by_cases hlt : k < xss.length
      · obtain ⟨b, off, rfl, hbB, hcell⟩ := HC.out (by omega)
        obtain ⟨u3, q0, s0⟩ := hcell k hlt
        have q1 : wr.cell? ⟨b, off + k, none⟩ = some u3 := by rw [hb3.cell (by simp only; omega)]; exact q0
        have s1 := s0.below hb3 hB
        obtain ⟨r1, r2⟩ := imgs_row HOK.out hlt
        have HR := Lib.hid r2
        have hsz2 := hb.size
        obtain ⟨A3, c3, rfl, -⟩ := id s1
        clear hcell q0 s0 r2
        go_wp2_with fail
        refine (reduced_any _ _ B _ s1 (Nat.le_trans hB hb3.size) (by omega) (fun x hx => by have := HR.out x hx; omega)).mono ?_
        rintro e w2 ⟨r5, rfl, ho5, hb5⟩
        obtain ⟨A5, c5, rfl, -⟩ := id (ho5.sl (Nat.le_refl _))
        have hrl := red_len (gl xss k)
        by_cases hr : red (gl xss k) = gl xss k
        · have hli : (((red (gl xss k)).length : Int) != ((gl xss k).length : Int)) = false := by rw [hr]; simp
          have HN := Lib.hid (HE.out.trans (prodGo_on (out := out) hlt hr))
          have hpl := pushAll_len out (gl xss k)
          clear hr
          go_wp2_with fail
          refine (pushedWord_any _ _ out (gl xss k) true w1.heap.size B _ ((hO.below hb5 (Nat.le_refl _)).mono (Nat.le_refl _) hb5.size) (s1.below hb5 (Nat.le_trans hB hb3.size)) (Nat.le_trans hB hb1.size) (Nat.le_trans hsz2 hb5.size) (by omega) (by omega) (fun x hx => by have := HR.out x hx; omega)).mono ?_
          rintro e w3 ⟨r6, rfl, ho6, hb6⟩
          go_wp2_with fail
          go_roundw
          case rel =>
            refine ⟨k + 1, pushAll out (gl xss k), by omega, by go_num, ho6, by omega, fun x hx => ?_, HN.out, (hb.trans (hb5.mono hsz2)).trans hb6⟩
            rcases pushAll_mem hx with hx | hx
            · exact HOX.out x hx
            · have := HR.out x hx; omega
          case measure => simp [intOf]; omega
        · have hli : (((red (gl xss k)).length : Int) != ((gl xss k).length : Int)) = true := by
            have : ¬ (red (gl xss k)).length = (gl xss k).length := fun e => hr ((red_len_iff _).2 e)
            simp; omega
          have HN := Lib.hid (HE.out.trans (prodGo_off (out := out) hlt hr))
          have H1 := Lib.hid (show isAct xss = false by rw [isAct, HN.out]; simp)
          clear hr
          go_wp2_with fail
          go_ret
          exact ⟨ret_bool H1.out.symm, hb3.trans (hb5.mono hb3.size)⟩
      · obtain rfl : k = xss.length := by omega
        have HN := Lib.hid (show prodGo [] xss = some out by rw [HE.out, List.drop_length]; rfl)
        have H1 := Lib.hid (show isAct xss = ((plGo [] xss).isSome && (decide (out.length = xss.length) && rising out)) by rw [isAct, HN.out, HOK.out]; rfl)
        obtain ⟨A3, c3, rfl, -⟩ := id (hO.sl (Nat.le_refl _))
        go_wp2_with fail
        refine (generatorsOf_any _ xss B _ (h.below hb3 hB) (Nat.le_trans hB hb3.size) HOK.out).mono ?_
        rintro e w2 ⟨r2, rfl, ho2, hb2⟩
        have hO2 := hO.below hb2 (Nat.le_refl _)
        obtain ⟨A4, c4, e4, hl4, hm4, -, hc4⟩ := id (hO2.sl hb2.size)
        injection e4 with e4 _ e5
        subst e4 e5
        have HC4 := Lib.hid hc4
        have hb5 := hb3.trans (hb2.mono hb3.size)
        unfold maxLen at hm4
        clear hc4
        go_wp2_with fail
        generalize hG : (plGo [] xss).isSome = G at *
        have HG := Lib.hid hG
        clear hG
        go_loopw [7, 37] (fun g i wr => ∃ j : Nat, j ≤ out.length ∧ i = .int .i64 j ∧ g = .bool (G && rising (out.take j)) ∧ wr = w2) (fun _ i _ => out.length - (intOf i).toNat)
        case atStart => exact ⟨0, Nat.zero_le _, rfl, by simp [rising], rfl⟩
        case round =>
          obtain ⟨j, hj, rfl, rfl, rfl⟩ := hrel
          by_cases hlt : j < out.length
          · obtain ⟨b, off, rfl, hbB, hcell⟩ := HC4.out (by omega)
            have q1 := hcell j hlt
            have HT := Lib.hid (rising_take hlt)
            have hx := HOX.out _ (gi_mem hlt)
            obtain ⟨x1, x2⟩ := hx
            obtain ⟨T, HTT⟩ : ∃ T, Hid ((G && rising (out.take j)) = T) := ⟨_, Lib.hid rfl⟩
            rw [HTT.out]
            have hjj : (j : Int) + 1 ≤ 9223372036854775807 := by omega
            clear hcell
            cases T
            · have HV := Lib.hid (show (G && rising (out.take (j + 1))) = false by rw [HT.out, ← Bool.and_assoc, HTT.out]; rfl)
              go_wp2
              go_roundw
              case rel => exact ⟨j + 1, by omega, by go_num, by rw [HV.out], trivial⟩
              case measure => simp [intOf]; omega
            · by_cases he : gi out j = (j : Int) + 1
              · have heb : (gi out j == (j : Int) + 1) = true := by simp [he]
                have HV := Lib.hid (show (G && rising (out.take (j + 1))) = true by rw [HT.out, ← Bool.and_assoc, HTT.out, heb]; rfl)
                clear he
                go_wp2
                go_roundw
                case rel => exact ⟨j + 1, by omega, by go_num, by rw [HV.out], trivial⟩
                case measure => simp [intOf]; omega
              · have heb : (gi out j == (j : Int) + 1) = false := by simp [he]
                have HV := Lib.hid (show (G && rising (out.take (j + 1))) = false by rw [HT.out, ← Bool.and_assoc, HTT.out, heb]; rfl)
                clear he
                go_wp2
                go_roundw
                case rel => exact ⟨j + 1, by omega, by go_num, by rw [HV.out], trivial⟩
                case measure => simp [intOf]; omega
          · obtain rfl : j = out.length := by omega
            rw [List.take_length]
            obtain ⟨T, HTT⟩ : ∃ T, Hid ((G && rising out) = T) := ⟨_, Lib.hid rfl⟩
            rw [HTT.out]
            by_cases hL : out.length = xss.length
            · have hLb : ((out.length : Int) == (xss.length : Int)) = true := by simp [hL]
              have HV := Lib.hid (show isAct xss = T by rw [H1.out, ← HTT.out, decide_eq_true hL]; rfl)
              clear hL
              cases T
              · go_wp2
                go_ret
                exact ⟨ret_bool HV.out.symm, hb5⟩
              · go_wp2
                go_ret
                exact ⟨ret_bool HV.out.symm, hb5⟩
            · have hLb : ((out.length : Int) == (xss.length : Int)) = false := by simp; omega
              have HV := Lib.hid (show isAct xss = false by rw [H1.out, decide_eq_false hL]; simp)
              clear hL
              cases T
              · go_wp2
                go_ret
                exact ⟨ret_bool HV.out.symm, hb5⟩
              · go_wp2
                go_ret
                exact ⟨ret_bool HV.out.symm, hb5⟩
set_option maxHeartbeats 3200000 in
theorem spec_IsAction_any (v : Value) (xss : List (List Int)) (B : Nat) (w : World) (h : SlS w B v xss) (hB : B ≤ w.heap.size) :
    Calls Try.prog 29 #[v] w fun e w' => e = .returned (.bool (isAct xss)) ∧ Below w.heap.size w w' := by
  obtain ⟨A, c, rfl, hl, hm, -, hcells⟩ := id h
  unfold maxLen at hm
  have HC := Lib.hid hcells
  clear hcells
  cases hok : okImgs xss
  · have H1 := Lib.hid (show isAct xss = false by simp [isAct, hok])
    go_enter Try.func29, Try.ntmps29
    go_wp2_with (go_at_call 47; refine (l05Images_any _ xss B _ h).mono ?_; rintro e w1 ⟨rfl, rfl⟩)
    go_ret
    exact ⟨ret_bool H1.out.symm, Below.refl _ _⟩
  · have HOK := Lib.hid hok
    have hn12 := (okImgs_parts hok).1
    have hO := Ow.empty w
    have ha := al1 w (.cells #[] 2)
    go_enter Try.func29, Try.ntmps29
    go_wp2_with (go_at_call 47; refine (l05Images_any _ xss B _ h).mono ?_; rintro e w1 ⟨rfl, rfl⟩)
    go_loopw [3, 4] (fun o i wr => ∃ (k : Nat) (out : List Int), k ≤ xss.length ∧ i = .int .i64 k ∧ Ow wr w.heap.size wr.heap.size o out ∧ out.length ≤ 20000 * k ∧ (∀ x ∈ out, -12 ≤ x ∧ x ≤ 12) ∧ prodGo [] xss = prodGo out (xss.drop k) ∧ Below w.heap.size w wr) (fun _ i _ => xss.length - (intOf i).toNat)
    case atStart => exact ⟨0, [], Nat.zero_le _, rfl, hO, by simp, by simp, rfl, ha⟩
    case round =>
      obtain ⟨k, out, hk, rfl, hO, hol, hox, he, hb⟩ := hrel
      have HE := Lib.hid he
      have HOX := Lib.hid hox
      clear he hox
      by_cases hlt : k < xss.length
      · obtain ⟨b, off, rfl, hbB, hcell⟩ := HC.out (by omega)
        obtain ⟨u3, q0, s0⟩ := hcell k hlt
        have q1 : wr.cell? ⟨b, off + k, none⟩ = some u3 := by rw [hb.cell (by simp only; omega)]; exact q0
        have s1 := s0.below hb hB
        obtain ⟨r1, r2⟩ := imgs_row HOK.out hlt
        have HR := Lib.hid r2
        have hsz2 := hb.size
        obtain ⟨A3, c3, rfl, -⟩ := id s1
        have hBr := Nat.le_trans hB hb.size
        have hltI : (k : Int) < xss.length := by omega
        clear hcell q0 s0 r2
        by_cases hr : red (gl xss k) = gl xss k
        · have hrb : decide (red (gl xss k) = gl xss k) = true := by simp [hr]
          have HN := Lib.hid (HE.out.trans (prodGo_on (out := out) hlt hr))
          have hpl := pushAll_len out (gl xss k)
          clear hr
          go_wp2_with fail
          have HK := Lib.hid (fun w' (hw : Below wr.heap.size wr w') => show w'.cell? ⟨b, off + k, none⟩ = some (.slice A3 (gl xss k).length c3) ∧ Below wr.heap.size wr w' from ⟨by rw [hw.cell (block_lt_of_cell q1)]; exact q1, hw⟩)
          clear q1
          go_region_held3 (fun w' => w'.cell? ⟨b, off + k, none⟩ = some (.slice A3 (gl xss k).length c3) ∧ Below wr.heap.size wr w') (exact HK.out _ (by first | assumption | go_grown))
            (first
              | (go_at_call 61; (refine (l03Reduce_any _ (gl xss k) B _ (s1.below (show Below wr.heap.size wr _ by go_grown) hBr) (Nat.le_trans hBr (Below.size (w := wr) (B := wr.heap.size) (by go_grown))) (by omega) (fun x hx => by have := HR.out x hx; omega)).mono ?_); rintro e w5 ⟨r5, rfl, ho5, hb5⟩; have hr5 : Below wr.heap.size wr w5 := Below.trans (show Below wr.heap.size wr _ by go_grown) (hb5.mono (Below.size (w := wr) (B := wr.heap.size) (by go_grown))))
              | (go_at_call 60; (refine (l00Same_is hrb (ho5.sl (Nat.le_refl _)) (s1.below hr5 hBr)).mono ?_); rintro e w6 ⟨rfl, n6, rfl⟩; have hr6 : Below wr.heap.size wr (w5.drewN n6) := below_drewN hr5 _))
          have s6 := s1.below hr6 hBr
          have HK6 := HK.out _ hr6
          have q6 := HK6.1
          clear HK6
          go_wp2_with fail
          refine (l05Push_any _ _ out (gl xss k) w.heap.size B _ ((hO.below hr6 (Nat.le_refl _)).mono (Nat.le_refl _) hr6.size) s6 hB (Nat.le_trans hsz2 hr6.size) (by omega) (by omega) (fun x hx => by have := HR.out x hx; omega)).mono ?_
          rintro e w3 ⟨r6, rfl, ho6, hb6⟩
          go_wp2_with fail
          go_roundw
          case rel =>
            refine ⟨k + 1, pushAll out (gl xss k), by omega, by go_num, ho6, by omega, fun x hx => ?_, HN.out, (hb.trans (hr6.mono hsz2)).trans hb6⟩
            rcases pushAll_mem hx with hx | hx
            · exact HOX.out x hx
            · have := HR.out x hx; omega
          case measure => simp [intOf]; omega
        · have hrb : decide (red (gl xss k) = gl xss k) = false := by simp [hr]
          have HN := Lib.hid (HE.out.trans (prodGo_off (out := out) hlt hr))
          have H1 := Lib.hid (show isAct xss = false by rw [isAct, HN.out]; simp)
          clear hr
          go_wp2_with fail
          have HK := Lib.hid (fun w' (hw : Below wr.heap.size wr w') => show w'.cell? ⟨b, off + k, none⟩ = some (.slice A3 (gl xss k).length c3) ∧ Below wr.heap.size wr w' from ⟨by rw [hw.cell (block_lt_of_cell q1)]; exact q1, hw⟩)
          clear q1
          go_region_held3 (fun w' => w'.cell? ⟨b, off + k, none⟩ = some (.slice A3 (gl xss k).length c3) ∧ Below wr.heap.size wr w') (exact HK.out _ (by first | assumption | go_grown))
            (first
              | (go_at_call 61; (refine (l03Reduce_any _ (gl xss k) B _ (s1.below (show Below wr.heap.size wr _ by go_grown) hBr) (Nat.le_trans hBr (Below.size (w := wr) (B := wr.heap.size) (by go_grown))) (by omega) (fun x hx => by have := HR.out x hx; omega)).mono ?_); rintro e w5 ⟨r5, rfl, ho5, hb5⟩; have hr5 : Below wr.heap.size wr w5 := Below.trans (show Below wr.heap.size wr _ by go_grown) (hb5.mono (Below.size (w := wr) (B := wr.heap.size) (by go_grown))))
              | (go_at_call 60; (refine (l00Same_is hrb (ho5.sl (Nat.le_refl _)) (s1.below hr5 hBr)).mono ?_); rintro e w6 ⟨rfl, n6, rfl⟩; have hr6 : Below wr.heap.size wr (w5.drewN n6) := below_drewN hr5 _))
          have s6 := s1.below hr6 hBr
          have HK6 := HK.out _ hr6
          have q6 := HK6.1
          clear HK6
          go_wp2_with fail
          go_ret
          exact ⟨ret_bool H1.out.symm, hb.trans (hr6.mono hb.size)⟩
      · obtain rfl : k = xss.length := by omega
        have HN := Lib.hid (show prodGo [] xss = some out by rw [HE.out, List.drop_length]; rfl)
        have H1 := Lib.hid (show isAct xss = ((plGo [] xss).isSome && (decide (out.length = xss.length) && rising out)) by rw [isAct, HN.out, HOK.out]; rfl)
        obtain ⟨A3, c3, rfl, -⟩ := id (hO.sl (Nat.le_refl _))
        go_wp2_with fail
        refine (l05Places_any _ xss B _ (h.below hb hB) (Nat.le_trans hB hb.size) HOK.out).mono ?_
        rintro e w2 ⟨r2, rfl, ho2, hb2⟩
        have hO2 := hO.below hb2 (Nat.le_refl _)
        obtain ⟨A4, c4, e4, hl4, hm4, -, hc4⟩ := id (hO2.sl hb2.size)
        injection e4 with e4 _ e5
        subst e4 e5
        have HC4 := Lib.hid hc4
        have hb5 := hb.trans (hb2.mono hb.size)
        unfold maxLen at hm4
        clear hc4
        obtain ⟨G, HG⟩ : ∃ G, Hid ((plGo [] xss).isSome = G) := ⟨_, Lib.hid rfl⟩
        rw [HG.out]
        cases G
        · have HV := Lib.hid (show isAct xss = false by rw [H1.out, HG.out]; rfl)
          go_wp2_with fail
          go_ret
          exact ⟨ret_bool HV.out.symm, hb5⟩
        · by_cases hL : out.length = xss.length
          · have hLb : ((out.length : Int) != (xss.length : Int)) = false := by simp [hL]
            have HV := Lib.hid (show isAct xss = rising out by rw [H1.out, HG.out, decide_eq_true hL]; rfl)
            clear hL
            go_wp2_with fail
            go_loopw [7] (fun i wr => ∃ j : Nat, j ≤ out.length ∧ i = .int .i64 j ∧ (∀ a, a < j → gi out a = (a : Int) + 1) ∧ wr = w2) (fun i _ => out.length - (intOf i).toNat)
            case atStart => exact ⟨0, Nat.zero_le _, rfl, fun a ha => absurd ha (Nat.not_lt_zero _), rfl⟩
            case round =>
              obtain ⟨j, hj, rfl, hg, rfl⟩ := hrel
              have HGG := Lib.hid hg
              clear hg
              by_cases hlt : j < out.length
              · obtain ⟨b, off, rfl, hbB, hcell⟩ := HC4.out (by omega)
                have q1 := hcell j hlt
                clear hcell
                by_cases he : gi out j = (j : Int) + 1
                · have heb : (gi out j != (j : Int) + 1) = false := by simp [he]
                  have HX := Lib.hid he
                  clear he
                  go_wp2
                  go_roundw
                  case rel =>
                    refine ⟨j + 1, by omega, by go_num, fun a ha => ?_, trivial⟩
                    by_cases haj : a < j
                    · exact HGG.out a haj
                    · obtain rfl : a = j := by omega
                      exact HX.out
                  case measure => simp [intOf]; omega
                · have heb : (gi out j != (j : Int) + 1) = true := by simp [he]
                  have HX := Lib.hid (rising_no hlt he)
                  clear he
                  go_wp2
                  go_ret
                  exact ⟨ret_bool (by rw [HV.out, HX.out]), hb5⟩
              · have HX := Lib.hid (rising_iff.2 fun a ha => HGG.out a (by omega))
                go_wp2
                go_ret
                exact ⟨ret_bool (by rw [HV.out, HX.out]), hb5⟩
          · have hLb : ((out.length : Int) != (xss.length : Int)) = true := by simp; omega
            have HV := Lib.hid (show isAct xss = false by rw [H1.out, decide_eq_false hL]; simp)
            clear hL
            go_wp2_with fail
            go_ret
            exact ⟨ret_bool HV.out.symm, hb5⟩
end Go.Proofs.Ytcoocjdkppdlmaa
