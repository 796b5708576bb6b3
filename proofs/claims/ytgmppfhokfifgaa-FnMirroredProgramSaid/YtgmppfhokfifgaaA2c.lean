/-
  Contracts: helpers of the laws on programs (a2Long, a2Same, a2Ops, a2At).
-/
import Derived.Test.YtgmppfhokfifgaaDr
import Derived.Test.YtgmppfhokfifgaaBase
import Derived.Test.YtgmppfhokfifgaaPo3
import Derived.Test.YtgmppfhokfifgaaSt
import Derived.Test.YtgmppfhokfifgaaRun
import Derived.Deep.RegionHeld3
namespace Go.Proofs.Ytgmppfhokfifgaa
set_option maxRecDepth 10000
open Go.RowKit
set_option maxHeartbeats 400000 in
/-- a2Same of slices that read as xs and ys. -/
theorem a2Same_any (v1 v2 : Value) (xs ys : List Int) (B1 B2 : Nat) (w : World) (h1 : Sl w B1 v1 xs) (h2 : Sl w B2 v2 ys) :
    Calls Try.prog 10 #[v1, v2] w fun e w' => e = .returned (.bool (decide (xs = ys))) ∧ ∃ n, w' = w.drewN n := by
  obtain ⟨A1, c1, rfl, hl1, hm1, _, hc1⟩ := h1
  obtain ⟨A2, c2, rfl, hl2, hm2, _, hc2⟩ := h2
  unfold maxLen at hm1 hm2
  by_cases hlen : xs.length = ys.length
  · have hb : ((xs.length : Int) != (ys.length : Int)) = false := by rw [hlen]; simp
    have HL := Lib.hid hlen
    have HC1 := Lib.hid hc1
    have HC2 := Lib.hid hc2
    clear hlen hc1 hc2
    go_enter Try.func10, Try.ntmps10
    go_wp2
    go_loopw [5] (fun i wr => ∃ k : Nat, k ≤ xs.length ∧ i = .int .i64 k ∧ (∀ j, j < k → gi xs j = gi ys j) ∧ ∃ n, wr = w.drewN n) (fun i _ => xs.length - (intOf i).toNat)
    case atStart => exact ⟨0, Nat.zero_le _, rfl, fun j h => absurd h (Nat.not_lt_zero _), 0, rfl⟩
    case round =>
      obtain ⟨k, hk, rfl, heq, n, rfl⟩ := hrel
      by_cases hlt : k < xs.length
      · obtain ⟨b1, o1, rfl, hb1, hcell1⟩ := HC1.out (by omega)
        obtain ⟨b2, o2, rfl, hb2, hcell2⟩ := HC2.out (by have := HL.out; omega)
        have hlt2 : k < ys.length := by have := HL.out; omega
        have q1 := hcell1 k hlt
        have q2 := hcell2 k hlt2
        clear hcell1 hcell2
        have HE := Lib.hid heq
        clear heq
        by_cases hx : gi xs k = gi ys k
        · have hxb : (gi xs k != gi ys k) = false := by simp [hx]
          have HX := Lib.hid hx
          clear hx
          go_wp2
          go_quiet (fail)
          go_wp2
          go_roundw
          case rel =>
            refine ⟨k + 1, by omega, by go_num, fun j hj => ?_, _, rfl⟩
            by_cases hjk : j < k
            · exact HE.out j hjk
            · obtain rfl : j = k := by omega
              exact HX.out
          case measure => simp [intOf]; omega
        · have hxb : (gi xs k != gi ys k) = true := by simp [hx]
          have hne : ¬ xs = ys := fun e => hx (by rw [e])
          have hnb : decide (xs = ys) = false := by simp [hne]
          have HNB := Lib.hid hnb
          clear hx hne hnb
          go_wp2
          go_quiet (fail)
          go_wp2
          go_ret
          exact ⟨ret_bool HNB.out.symm, quiet_end _ _ _⟩
      · have HE := Lib.hid heq
        clear heq
        go_wp2
        go_ret
        have hxy : xs = ys := gi_ext HL.out fun j hj => HE.out j (by omega)
        exact ⟨ret_bool (by simp [hxy]), _, rfl⟩
  · have hb : ((xs.length : Int) != (ys.length : Int)) = true := by simp; omega
    have hne : decide (xs = ys) = false := by simp; exact fun e => hlen (by rw [e])
    have HNB := Lib.hid hne
    clear hlen hne hc1 hc2
    go_enter Try.func10, Try.ntmps10
    go_wp2
    go_ret
    exact ⟨ret_bool HNB.out.symm, 0, rfl⟩

theorem a2Same_yes {v1 v2 : Value} {xs ys : List Int} {B1 B2 : Nat} {w : World} (h1 : Sl w B1 v1 xs) (h2 : Sl w B2 v2 ys) (he : xs = ys) :
    Calls Try.prog 10 #[v1, v2] w fun e w' => e = .returned (.bool true) ∧ Below w.heap.size w w' :=
  (a2Same_any v1 v2 xs ys B1 B2 w h1 h2).mono fun _ _ ⟨h, n, hw⟩ => ⟨by rw [h]; simp [he], by rw [hw]; exact drewN_below w _ n⟩

theorem a2Same_q {v1 v2 : Value} {xs : List Int} {B1 B2 : Nat} {w : World} (h1 : Sl w B1 v1 xs) (h2 : Sl w B2 v2 xs) (n x : Nat) :
    Calls Try.prog 10 #[v1, v2] (w.drewN (n + x)) fun e w'' => e = .returned (.bool true) ∧ ∃ m, w'' = w.drewN (n + m) :=
  (a2Same_any _ _ _ _ _ _ _ (h1.drewN _) (h2.drewN _)).mono fun e w' ⟨he, m, hw⟩ => ⟨by rw [he]; simp, x + m, by rw [hw, World.drewN_drewN, Nat.add_assoc]⟩
theorem a2Long_any (v1 v2 : Value) (bs cs : List Int) (B : Nat) (w : World) (h1 : SlB w B v1 bs) (h2 : SlB w B v2 cs) :
    Calls Try.prog 5 #[v1, v2] w fun e w' => e = .returned (.bool (decide (3000 < (bs.length : Int)) || decide (3000 < (cs.length : Int)))) ∧ w = w' := by
  obtain ⟨A, c, rfl, hl, hm, -⟩ := id h1
  obtain ⟨A2, c2, rfl, hl2, hm2, -⟩ := id h2
  unfold maxLen at hm hm2
  by_cases a : 3000 < (bs.length : Int)
  · have HT : Hid ((decide (3000 < (bs.length : Int)) || decide (3000 < (cs.length : Int))) = true) := Lib.hid (by simp [a])
    go_enter Try.func5, Try.ntmps5
    go_wp2
    go_ret
    first | exact ⟨ret_bool HT.out.symm, rfl⟩ | exact ⟨rfl, rfl⟩
  · by_cases b : 3000 < (cs.length : Int)
    · have HT : Hid ((decide (3000 < (bs.length : Int)) || decide (3000 < (cs.length : Int))) = true) := Lib.hid (by simp [b])
      go_enter Try.func5, Try.ntmps5
      go_wp2
      go_ret
      first | exact ⟨ret_bool HT.out.symm, rfl⟩ | exact ⟨rfl, rfl⟩
    · have HT : Hid ((decide (3000 < (bs.length : Int)) || decide (3000 < (cs.length : Int))) = false) := Lib.hid (by simp [a, b])
      go_enter Try.func5, Try.ntmps5
      go_wp2
      go_ret
      first | exact ⟨ret_bool HT.out.symm, rfl⟩ | exact ⟨rfl, rfl⟩
set_option maxHeartbeats 3200000 in
theorem a2Ops_yes {v1 v2 : Value} {os : List (List Int)} {B1 B2 : Nat} {w : World} (h1 : SlR 8 w B1 v1 os) (h2 : SlR 8 w B2 v2 os) :
    Calls Try.prog 9 #[v1, v2] w fun e w' => e = .returned (.bool true) ∧ Below w.heap.size w w' := by
  obtain ⟨A1, c1, rfl, hl1, hm1, -⟩ := id h1
  obtain ⟨A2, c2, rfl, hl2, hm2, -⟩ := id h2
  unfold maxLen at hm1 hm2
  have HR1 := Lib.hid h1
  have HR2 := Lib.hid h2
  clear h1 h2
  go_enter Try.func9, Try.ntmps9
  go_wp2
  go_loopw [5] (fun i wr => ∃ k : Nat, k ≤ os.length ∧ i = .int .i64 k ∧ ∃ n, wr = w.drewN n) (fun i _ => os.length - (intOf i).toNat)
  case atStart => exact ⟨0, Nat.zero_le _, rfl, 0, rfl⟩
  case round =>
    obtain ⟨k, hk, rfl, n, rfl⟩ := hrel
    by_cases hlt : k < os.length
    · have hltI : (k : Int) < (os.length : Int) := by omega
      obtain ⟨p1, o1, rfl⟩ := HR1.out.addr (by omega)
      obtain ⟨p2, o2, rfl⟩ := HR2.out.addr (by omega)
      obtain ⟨-, hl1, a0, a1, a2, a3, a4, a5, a6, a7⟩ := HR1.out.opAt hlt
      obtain ⟨-, hl2, b0, b1, b2, b3, b4, b5, b6, b7⟩ := HR2.out.opAt hlt
      go_wp2
      go_quiet (fail)
      go_wp2
      go_roundw
      case rel => exact ⟨k + 1, by omega, by go_num, _, rfl⟩
      case measure => simp [intOf]; omega
    · go_wp2
      go_ret
      exact ⟨rfl, drewN_below w _ n⟩
end Go.Proofs.Ytgmppfhokfifgaa
