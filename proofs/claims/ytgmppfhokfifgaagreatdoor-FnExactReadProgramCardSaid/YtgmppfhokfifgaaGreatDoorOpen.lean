/-
  What the arguments of a law read as, in the words of Base: numbers, slices of numbers.
-/
import Derived.Test.YtgmppfhokfifgaaGreatDoorBase
import Derived.ProofKit
import Derived.OpenShut
import Derived.ShutString
import Derived.ChangeOld
import Derived.Deep.Slices
namespace Go.Proofs.YtgmppfhokfifgaaGreatDoor
set_option maxRecDepth 10000
open Go.RowKit Go.ChangeShapes Go.WideShapes

theorem own_knob : ownKnob Tryz.prog.godebug = none := by kernel_rfl
theorem laid_out : laidOutB Tryz.prog = true := by kernel_rfl

/-- A number of 64 bits. -/
def R64 (x : Int) : Prop := -9223372036854775808 ≤ x ∧ x ≤ 9223372036854775807
theorem r64_of_wf {x : Int} (h : (Lit.int .i64 x).wf = true) : R64 x := by
  simp only [Lit.wf, IntKind.min, IntKind.max, IntKind.signed, IntKind.bits, Bool.and_eq_true, decide_eq_true_eq, if_true] at h
  unfold R64
  omega
theorem addr_of_cell {w : World} {a : Addr} {v : Value} (h : w.cell? a = some v) : a = ⟨a.block, a.off, none⟩ ∧ a.block < w.heap.size := by
  refine ⟨?_, block_lt_of_cell h⟩
  obtain ⟨b, off, spot⟩ := a
  cases spot with
  | none => rfl
  | some s =>
    unfold World.cell? at h
    split at h <;> simp at h

section
variable {H : Type} {enc : TypeId × Value → H} {w : World} {spare : Nat → Bool} {held : Bool}
theorem sl_trod {fuel : Nat} {cs : List Value} {x : DataW H × List MemPlace} (h : DataW.trod enc Tryz.prog w 0 spare held fuel 33 cs = some x) :
    ∃ v xs, cs = [v] ∧ Sl w w.heap.size v xs ∧ ∀ n ∈ xs, R64 n := by
  rcases open_ints Tryz.underlying33 Tryz.underlying2 (by kernel_rfl) h with ⟨hcs, _⟩ | ⟨a, len, cap, zs, hcs, _, hl, hm, hz, _, hcell, hwz⟩
  · exact ⟨_, [], hcs, Sl.nil _ _, by simp⟩
  · have hzl : len ≤ zs.length := by rw [hz]; split <;> omega
    have htl : (zs.take len).length = len := by simp; omega
    refine ⟨_, zs.take len, hcs, ⟨some a, cap, by rw [htl], by omega, hm, by simp, fun hp => ?_⟩, fun n hn => r64_of_wf (hwz n (List.mem_of_mem_take hn))⟩
    rw [htl] at hp ⊢
    have h0 := hcell 0 (by omega)
    rw [show a.add 0 = a from rfl] at h0
    obtain ⟨ha, hlt⟩ := addr_of_cell h0
    refine ⟨a.block, a.off, by rw [← ha], hlt, fun k hk => ?_⟩
    have hk' := hcell k (by omega)
    rw [ha, Addr.add_lit] at hk'
    rw [hk']
    congr 2
    unfold gi
    simp [List.getD, hk]
theorem open_Sl {r : Reach} {base : Nat} {v : Value} {d : DataW H} {p : List MemPlace} (hval : Value.okWide Tryz.prog w r base 33 v) (h : DataW.Trod enc Tryz.prog w 0 spare held 33 v d p) :
    ∃ xs, Sl w w.heap.size v xs ∧ ∀ n ∈ xs, R64 n := by
  obtain ⟨a, len, cap, rfl⟩ := okWide_slice Tryz.underlying33 hval
  obtain ⟨fuel, hf⟩ := h
  obtain ⟨v, xs, hcs, hs, hr⟩ := sl_trod hf
  simp [Value.cells] at hcs
  subst hcs
  exact ⟨xs, hs, hr⟩
theorem open_I {r : Reach} {base : Nat} {v : Value} {d : DataW H} {p : List MemPlace} (hval : Value.okWide Tryz.prog w r base 2 v) (h : DataW.Trod enc Tryz.prog w 0 spare held 2 v d p) :
    ∃ x, v = .int .i64 x ∧ R64 x := by
  obtain ⟨x, rfl, _, _, hw⟩ := open_int Tryz.underlying2 hval h
  exact ⟨x, rfl, r64_of_wf hw⟩
end
section
variable {H : Type} {enc : TypeId × Value → H} {w : World} {spare : Nat → Bool} {held : Bool}
theorem int_trod {fuel : Nat} {cs : List Value} {x : DataW H × List MemPlace} (h : DataW.trod enc Tryz.prog w 0 spare held fuel 2 cs = some x) : ∃ n, cs = [.int .i64 n] ∧ R64 n := by
  obtain ⟨n, hc, _, hw⟩ := DataW.trod_int Tryz.underlying2 h
  exact ⟨n, hc, r64_of_wf hw⟩
end
end Go.Proofs.YtgmppfhokfifgaaGreatDoor
