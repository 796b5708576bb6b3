/-
  Contracts: IsAction of the program and of the reference.
-/
import Derived.Test.YtcinnbkhnonijaaPl
import Derived.Deep.RegionHeld3
namespace Go.Proofs.Ytcinnbkhnonijaa
set_option maxRecDepth 10000
open Go.RowKit

set_option maxHeartbeats 400000 in
/-- l00Same of slices that read as xs and ys. -/
theorem l00Same_any (v1 v2 : Value) (xs ys : List Int) (B1 B2 : Nat) (w : World) (h1 : Sl w B1 v1 xs) (h2 : Sl w B2 v2 ys) :
    Calls Try.prog 87 #[v1, v2] w fun e w' => e = .returned (.bool (decide (xs = ys))) ∧ ∃ n, w' = w.drewN n := by
  obtain ⟨A1, c1, rfl, hl1, hm1, _, hc1⟩ := h1
  obtain ⟨A2, c2, rfl, hl2, hm2, _, hc2⟩ := h2
  unfold maxLen at hm1 hm2
  by_cases hlen : xs.length = ys.length
  · have hb : ((xs.length : Int) != (ys.length : Int)) = false := by rw [hlen]; simp
    have HL := Lib.hid hlen
    have HC1 := Lib.hid hc1
    have HC2 := Lib.hid hc2
    clear hlen hc1 hc2
    go_enter Try.func87, Try.ntmps87
    go_wp2
    go_loopw [5] (fun i wr => ∃ k : Nat, k ≤ xs.length ∧ i = .int .i64 k ∧ (∀ j, j < k → gi xs j = gi ys j) ∧ ∃ n, wr = w.drewN n) (fun i _ => xs.length - (intOf i).toNat)
    case atStart => exact ⟨0, Nat.zero_le _, rfl, fun j h => absurd h (Nat.not_lt_zero _), 0, rfl⟩
    case round =>
      obtain ⟨k, hk, rfl, heq, n, rfl⟩ := hrel
      by_cases hlt : k < xs.length
      · obtain ⟨b1, o1, rfl, hb1, hcell1⟩ := HC1.out (by omega)
        obtain ⟨b2, o2, rfl, hb2, hcell2⟩ := HC2.out (by have := HL.out; omega)
        have hlt2 : k < ys.length := by have := HL.out; omega
        have q1 := hcell1 k hlt
        have q2 := hcell2 k hlt2
        clear hcell1 hcell2
        have HE := Lib.hid heq
        clear heq
        by_cases hx : gi xs k = gi ys k
        · have hxb : (gi xs k != gi ys k) = false := by simp [hx]
          have HX := Lib.hid hx
          clear hx
          go_wp2
          go_quiet (fail)
          go_wp2
          go_roundw
          case rel =>
            refine ⟨k + 1, by omega, by go_num, fun j hj => ?_, _, rfl⟩
            by_cases hjk : j < k
            · exact HE.out j hjk
            · obtain rfl : j = k := by omega
              exact HX.out
          case measure => simp [intOf]; omega
        · have hxb : (gi xs k != gi ys k) = true := by simp [hx]
          have hne : ¬ xs = ys := fun e => hx (by rw [e])
          have hnb : decide (xs = ys) = false := by simp [hne]
          have HNB := Lib.hid hnb
          clear hx hne hnb
          go_wp2
          go_quiet (fail)
          go_wp2
          go_ret
          exact ⟨ret_bool HNB.out.symm, quiet_end _ _ _⟩
      · have HE := Lib.hid heq
        clear heq
        go_wp2
        go_ret
        have hxy : xs = ys := gi_ext HL.out fun j hj => HE.out j (by omega)
        exact ⟨ret_bool (by simp [hxy]), _, rfl⟩
  · have hb : ((xs.length : Int) != (ys.length : Int)) = true := by simp; omega
    have hne : decide (xs = ys) = false := by simp; exact fun e => hlen (by rw [e])
    have HNB := Lib.hid hne
    clear hlen hne hc1 hc2
    go_enter Try.func87, Try.ntmps87
    go_wp2
    go_ret
    exact ⟨ret_bool HNB.out.symm, 0, rfl⟩

theorem l00Same_is {v1 v2 : Value} {xs ys : List Int} {B1 B2 : Nat} {w : World} {T : Bool} (hT : decide (xs = ys) = T) (h1 : Sl w B1 v1 xs) (h2 : Sl w B2 v2 ys) :
    Calls Try.prog 87 #[v1, v2] w fun e w' => e = .returned (.bool T) ∧ ∃ n, w' = w.drewN n := by rw [← hT]; exact l00Same_any _ _ _ _ _ _ _ h1 h2
theorem push_len_cases (out : List Int) (k : Int) : push out k = out ++ [k] ∨ (push out k).length + 1 ≤ out.length := by
  unfold push
  split
  · right
    rename_i h
    cases out with
    | nil => simp at h
    | cons a r => simp
  · left; rfl
theorem pushAll_len_eq {out xs : List Int} (h : (pushAll out xs).length = out.length + xs.length) : pushAll out xs = out ++ xs := by
  induction xs generalizing out with
  | nil => simp [pushAll]
  | cons x xs ih =>
    have h1 : pushAll out (x :: xs) = pushAll (push out x) xs := rfl
    rw [h1] at h ⊢
    rcases push_len_cases out x with h2 | h2
    · rw [h2] at h ⊢
      rw [ih (by simp at h ⊢; omega)]
      simp
    · have := pushAll_len (push out x) xs
      simp only [List.length_cons] at h
      omega
theorem red_len_iff (xs : List Int) : red xs = xs ↔ (red xs).length = xs.length :=
  ⟨fun h => by rw [h], fun h => by have := pushAll_len_eq (out := []) (xs := xs) (by simpa [red] using h); simpa [red] using this⟩
def prodGo (out : List Int) : List (List Int) → Option (List Int)
  | [] => some out
  | xs :: r => if red xs = xs then prodGo (pushAll out xs) r else none
theorem prodGo_on {out : List Int} {xss : List (List Int)} {k : Nat} (hk : k < xss.length) (h : red (gl xss k) = gl xss k) : prodGo out (xss.drop k) = prodGo (pushAll out (gl xss k)) (xss.drop (k + 1)) := by rw [drop_gl hk, prodGo, if_pos h]
theorem prodGo_off {out : List Int} {xss : List (List Int)} {k : Nat} (hk : k < xss.length) (h : ¬ red (gl xss k) = gl xss k) : prodGo out (xss.drop k) = none := by rw [drop_gl hk, prodGo, if_neg h]
/-- Are the letters 1, 2, ..? -/
def rising (p : List Int) : Bool := (List.range p.length).all fun i => gi p i == (i : Int) + 1
theorem rising_iff {p : List Int} : rising p = true ↔ ∀ i, i < p.length → gi p i = (i : Int) + 1 := by simp [rising]
theorem rising_no {p : List Int} {i : Nat} (hi : i < p.length) (h : gi p i ≠ (i : Int) + 1) : rising p = false := by
  rw [← Bool.not_eq_true]; intro h2; exact h (rising_iff.1 h2 i hi)
theorem rising_take {p : List Int} {j : Nat} (h : j < p.length) : rising (p.take (j + 1)) = (rising (p.take j) && (gi p j == (j : Int) + 1)) := by
  have hg : ∀ i, i < j + 1 → gi (p.take (j + 1)) i = gi p i := fun i hi => by rw [gi_eq (by simp; omega), gi_eq (by omega)]; simp
  have hg2 : ∀ i, i < j → gi (p.take j) i = gi p i := fun i hi => by rw [gi_eq (by simp; omega), gi_eq (by omega)]; simp
  rw [Bool.eq_iff_iff, Bool.and_eq_true, rising_iff, rising_iff, beq_iff_eq]
  constructor
  · intro h1
    refine ⟨fun i hi => ?_, ?_⟩
    · have hi' : i < j := by simp at hi; omega
      rw [hg2 i hi', ← hg i (by omega)]; exact h1 i (by simp; omega)
    · rw [← hg j (by omega)]; exact h1 j (by simp; omega)
  · rintro ⟨h1, h2⟩ i hi
    have hi' : i < j + 1 := by simp at hi; omega
    rw [hg i hi']
    by_cases hij : i < j
    · rw [← hg2 i hij]; exact h1 i (by simp; omega)
    · obtain rfl : i = j := by omega
      exact h2
def isAct (xss : List (List Int)) : Bool := okImgs xss && (match prodGo [] xss with | none => false | some p => (plGo [] xss).isSome && (decide (p.length = xss.length) && rising p))
end Go.Proofs.Ytcinnbkhnonijaa
