/-
  Contracts: helpers of the laws on programs (a2Long, a2Same, a2Ops, a2At).
-/
import Derived.Test.YtgmppfhokfifgaaGreatDoorDr
import Derived.Test.YtgmppfhokfifgaaGreatDoorInts
import Derived.Test.YtgmppfhokfifgaaGreatDoorPo3
import Derived.Test.YtgmppfhokfifgaaGreatDoorSt
import Derived.Test.YtgmppfhokfifgaaGreatDoorGmh
import Derived.Deep.RegionHeld3
namespace Go.Proofs.YtgmppfhokfifgaaGreatDoor
set_option maxRecDepth 10000
open Go.RowKit
theorem a2Long_any (v1 v2 : Value) (bs cs : List Int) (B : Nat) (w : World) (h1 : SlB w B v1 bs) (h2 : SlB w B v2 cs) :
    Calls Tryz.prog 10 #[v1, v2] w fun e w' => e = .returned (.bool (decide (3000 < (bs.length : Int)) || decide (3000 < (cs.length : Int)))) ∧ w = w' := by
  obtain ⟨A, c, rfl, hl, hm, -⟩ := id h1
  obtain ⟨A2, c2, rfl, hl2, hm2, -⟩ := id h2
  unfold maxLen at hm hm2
  by_cases a : 3000 < (bs.length : Int)
  · have HT : Hid ((decide (3000 < (bs.length : Int)) || decide (3000 < (cs.length : Int))) = true) := Lib.hid (by simp [a])
    go_enter Tryz.func10, Tryz.ntmps10
    go_wp2
    go_ret
    first | exact ⟨ret_bool HT.out.symm, rfl⟩ | exact ⟨rfl, rfl⟩
  · by_cases b : 3000 < (cs.length : Int)
    · have HT : Hid ((decide (3000 < (bs.length : Int)) || decide (3000 < (cs.length : Int))) = true) := Lib.hid (by simp [b])
      go_enter Tryz.func10, Tryz.ntmps10
      go_wp2
      go_ret
      first | exact ⟨ret_bool HT.out.symm, rfl⟩ | exact ⟨rfl, rfl⟩
    · have HT : Hid ((decide (3000 < (bs.length : Int)) || decide (3000 < (cs.length : Int))) = false) := Lib.hid (by simp [a, b])
      go_enter Tryz.func10, Tryz.ntmps10
      go_wp2
      go_ret
      first | exact ⟨ret_bool HT.out.symm, rfl⟩ | exact ⟨rfl, rfl⟩
set_option maxHeartbeats 3200000 in
theorem a2Ops_yes {v1 v2 : Value} {os : List (List Int)} {B1 B2 : Nat} {w : World} (h1 : SlR 8 w B1 v1 os) (h2 : SlR 8 w B2 v2 os) :
    Calls Tryz.prog 13 #[v1, v2] w fun e w' => e = .returned (.bool true) ∧ Below w.heap.size w w' := by
  obtain ⟨A1, c1, rfl, hl1, hm1, -⟩ := id h1
  obtain ⟨A2, c2, rfl, hl2, hm2, -⟩ := id h2
  unfold maxLen at hm1 hm2
  have HR1 := Lib.hid h1
  have HR2 := Lib.hid h2
  clear h1 h2
  go_enter Tryz.func13, Tryz.ntmps13
  go_wp2
  go_loopw [5] (fun i wr => ∃ k : Nat, k ≤ os.length ∧ i = .int .i64 k ∧ ∃ n, wr = w.drewN n) (fun i _ => os.length - (intOf i).toNat)
  case atStart => exact ⟨0, Nat.zero_le _, rfl, 0, rfl⟩
  case round =>
    obtain ⟨k, hk, rfl, n, rfl⟩ := hrel
    by_cases hlt : k < os.length
    · have hltI : (k : Int) < (os.length : Int) := by omega
      obtain ⟨p1, o1, rfl⟩ := HR1.out.addr (by omega)
      obtain ⟨p2, o2, rfl⟩ := HR2.out.addr (by omega)
      obtain ⟨-, hl1, a0, a1, a2, a3, a4, a5, a6, a7⟩ := HR1.out.opAt hlt
      obtain ⟨-, hl2, b0, b1, b2, b3, b4, b5, b6, b7⟩ := HR2.out.opAt hlt
      go_wp2
      go_quiet (fail)
      go_wp2
      go_roundw
      case rel => exact ⟨k + 1, by omega, by go_num, _, rfl⟩
      case measure => simp [intOf]; omega
    · go_wp2
      go_ret
      exact ⟨rfl, drewN_below w _ n⟩
end Go.Proofs.YtgmppfhokfifgaaGreatDoor
