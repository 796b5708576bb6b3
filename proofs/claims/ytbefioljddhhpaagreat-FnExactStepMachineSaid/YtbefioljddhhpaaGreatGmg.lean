/-
  Contracts: the reference's l07New.
-/
import Derived.Test.YtbefioljddhhpaaGreatMst
import Derived.Laws.MakeOwn
import Derived.Deep.RegionHeld3
import Derived.Deep.DeepCutAuto
namespace Go.Proofs.YtbefioljddhhpaaGreat
set_option maxRecDepth 10000
open Go.RowKit

def zeroM : Mac := ⟨0, 0, [], [], [], [], []⟩
theorem hs_nilS {w : World} : Hs w w.heap.size [rws_ (.slice none 0 0) []] := hs_ows (OwS.nil _ _) (Below.refl _ _)
theorem hs_nilF {w : World} : Hs w w.heap.size [rc_ 81 6 (.slice none 0 0) 0 (infC [])] := hs_owc (OwC.nil _ _ _ _) (Below.refl _ _)
theorem hs_nilI {w : World} : Hs w w.heap.size [rw_ (.slice none 0 0) []] := hs_ow (Ow.nil _ _ _) (Below.refl _ _)
end Go.Proofs.YtbefioljddhhpaaGreat
/-
  Contracts: the program's newMachine.
-/
namespace Go.Proofs.YtbefioljddhhpaaGreat
set_option maxRecDepth 10000
open Go.RowKit

theorem run_mk {P : Program} (t e : TypeId) (i : TypeInfo) (z : Value) (ht : P.underlying t = some (.slice e)) (hi : P.info? e = some i) (hz : i.zero = some z) (n : Nat) (hb : i.bytes ≤ 100) (hn : n ≤ 1000000) (w : World) :
    (Instr.makeSlice t (.int .i64 (n : Int)) (.int .i64 (n : Int))).run P w = .ok (.slice (some ⟨w.heap.size, 0, none⟩) n n) (w.alloc (.cells (madeCells z.cells (n * i.size)) e)) := by
  have h : i.bytes * n ≤ 100 * 1000000 := Nat.mul_le_mul hb hn
  have h2 : (i.bytes : Int) * (n : Int) ≤ 281474976710656 := by
    have h3 : ((i.bytes * n : Nat) : Int) ≤ 281474976710656 := by omega
    rwa [Int.natCast_mul] at h3
  have hr := run_make (P := P) w t e i z ht hi hz .i64 .i64 n n (by omega) (by omega) h2 (by omega)
  simp only [Int.toNat_natCast] at hr
  exact hr
theorem ownsRow_at {w : World} {g n z : Nat} {e : TypeId} {cs : Array Value} (h : w.heap[g]? = some (.cells cs e)) (hm : n ≤ maxLen) (hs : cs.size = n * z) : w.ownsRow 0 e z (.slice (some ⟨g, 0, none⟩) n n) n cs.toList :=
  ⟨by simpa using hs, .inr ⟨g, n, cs, rfl, Nat.zero_le _, h, Nat.le_refl _, hm, hs, by rw [← hs, ← Array.length_toList, List.take_length]⟩⟩
end Go.Proofs.YtbefioljddhhpaaGreat
/-
  Contracts: NewMachine of both. Printed by gen_mn3.py.
-/
namespace Go.Proofs.YtbefioljddhhpaaGreat
set_option maxRecDepth 10000
open Go.RowKit

theorem hs_zeroM (w : World) : Hs w w.heap.size [mac_ (.slice none 0 0) (.slice none 0 0) (.slice none 0 0) (.slice none 0 0) (.slice none 0 0) zeroM] :=
  Hs.mac (m := zeroM) ((((hs_nilS.join (Below.refl _ _) hs_nilS).join (Below.refl _ _) (hs_owc (e := 78) (z := 2) (OwC.nil _ _ _ _) (Below.refl _ _))).join (Below.refl _ _) hs_nilF).join (Below.refl _ _) hs_nilI)
end Go.Proofs.YtbefioljddhhpaaGreat
