/-
  What the arguments of a law read as, in the words of Base: numbers, slices of numbers.
-/
import Derived.Test.YtbefioljddhhpaaGreatBase
import Derived.ProofKit
import Derived.OpenShut
import Derived.ShutString
import Derived.ChangeOld
import Derived.Deep.Slices
namespace Go.Proofs.YtbefioljddhhpaaGreat
set_option maxRecDepth 10000
open Go.RowKit Go.ChangeShapes Go.WideShapes

theorem own_knob : ownKnob Tryz.prog.godebug = none := by kernel_rfl
theorem laid_out : laidOutB Tryz.prog = true := by kernel_rfl

/-- A number of 64 bits. -/
def R64 (x : Int) : Prop := -9223372036854775808 ≤ x ∧ x ≤ 9223372036854775807
theorem r64_of_wf {x : Int} (h : (Lit.int .i64 x).wf = true) : R64 x := by
  simp only [Lit.wf, IntKind.min, IntKind.max, IntKind.signed, IntKind.bits, Bool.and_eq_true, decide_eq_true_eq, if_true] at h
  unfold R64
  omega
theorem addr_of_cell {w : World} {a : Addr} {v : Value} (h : w.cell? a = some v) : a = ⟨a.block, a.off, none⟩ ∧ a.block < w.heap.size := by
  refine ⟨?_, block_lt_of_cell h⟩
  obtain ⟨b, off, spot⟩ := a
  cases spot with
  | none => rfl
  | some s =>
    unfold World.cell? at h
    split at h <;> simp at h

section
variable {H : Type} {enc : TypeId × Value → H} {w : World} {spare : Nat → Bool} {held : Bool}
theorem sl_trod {fuel : Nat} {cs : List Value} {x : DataW H × List MemPlace} (h : DataW.trod enc Tryz.prog w 0 spare held fuel 25 cs = some x) :
    ∃ v xs, cs = [v] ∧ Sl w w.heap.size v xs ∧ ∀ n ∈ xs, R64 n := by
  rcases open_ints Tryz.underlying25 Tryz.underlying2 (by kernel_rfl) h with ⟨hcs, _⟩ | ⟨a, len, cap, zs, hcs, _, hl, hm, hz, _, hcell, hwz⟩
  · exact ⟨_, [], hcs, Sl.nil _ _, by simp⟩
  · have hzl : len ≤ zs.length := by rw [hz]; split <;> omega
    have htl : (zs.take len).length = len := by simp; omega
    refine ⟨_, zs.take len, hcs, ⟨some a, cap, by rw [htl], by omega, hm, by simp, fun hp => ?_⟩, fun n hn => r64_of_wf (hwz n (List.mem_of_mem_take hn))⟩
    rw [htl] at hp ⊢
    have h0 := hcell 0 (by omega)
    rw [show a.add 0 = a from rfl] at h0
    obtain ⟨ha, hlt⟩ := addr_of_cell h0
    refine ⟨a.block, a.off, by rw [← ha], hlt, fun k hk => ?_⟩
    have hk' := hcell k (by omega)
    rw [ha, Addr.add_lit] at hk'
    rw [hk']
    congr 2
    unfold gi
    simp [List.getD, hk]
end
section
variable {H : Type} {enc : TypeId × Value → H} {w : World} {spare : Nat → Bool} {held : Bool}
theorem int_trod {fuel : Nat} {cs : List Value} {x : DataW H × List MemPlace} (h : DataW.trod enc Tryz.prog w 0 spare held fuel 2 cs = some x) : ∃ n, cs = [.int .i64 n] ∧ R64 n := by
  obtain ⟨n, hc, _, hw⟩ := DataW.trod_int Tryz.underlying2 h
  exact ⟨n, hc, r64_of_wf hw⟩
theorem needle_trod {fuel : Nat} {cs : List Value} {x : DataW H × List MemPlace} (h : DataW.trod enc Tryz.prog w 0 spare held fuel 29 cs = some x) : ∃ b a, cs = [.int .i64 b, .int .i64 a] ∧ R64 b ∧ R64 a := by
  obtain ⟨xs, n, _, _, hl, hlen, hf⟩ := DataW.trod_struct Tryz.underlying29 h
  have hl' : cs.length = 2 := hl.trans (by kernel_rfl)
  match cs, hl', xs, hlen with
  | [c0, c1], _, [y0, y1], _ =>
    obtain ⟨b, e0, r0⟩ := int_trod (x := y0) (hf 0 _ rfl)
    obtain ⟨a, e1, r1⟩ := int_trod (x := y1) (hf 1 _ rfl)
    have e0' : [c0] = [Value.int .i64 b] := e0
    have e1' : [c1] = [Value.int .i64 a] := e1
    injection e0' with e0'
    injection e1' with e1'
    exact ⟨b, a, by rw [e0', e1'], r0, r1⟩
theorem op_trod {fuel : Nat} {cs : List Value} {x : DataW H × List MemPlace} (h : DataW.trod enc Tryz.prog w 0 spare held fuel 31 cs = some x) :
    ∃ k d fb fa tb ta c r, cs = [.int .i64 k, .int .i64 d, .int .i64 fb, .int .i64 fa, .int .i64 tb, .int .i64 ta, .int .i64 c, .int .i64 r] ∧ R64 k ∧ R64 d ∧ R64 fb ∧ R64 fa ∧ R64 tb ∧ R64 ta ∧ R64 c ∧ R64 r := by
  obtain ⟨xs, n, _, _, hl, hlen, hf⟩ := DataW.trod_struct Tryz.underlying31 h
  have hl' : cs.length = 8 := hl.trans (by kernel_rfl)
  match cs, hl', xs, hlen with
  | [c0, c1, c2, c3, c4, c5, c6, c7], _, [y0, y1, y2, y3, y4, y5], _ =>
    obtain ⟨k, e0, r0⟩ := int_trod (x := y0) (hf 0 _ rfl)
    obtain ⟨d, e1, r1⟩ := int_trod (x := y1) (hf 1 _ rfl)
    obtain ⟨fb, fa, e2, r2, r3⟩ := needle_trod (x := y2) (hf 2 _ rfl)
    obtain ⟨tb, ta, e3, r4, r5⟩ := needle_trod (x := y3) (hf 3 _ rfl)
    obtain ⟨c, e4, r6⟩ := int_trod (x := y4) (hf 4 _ rfl)
    obtain ⟨r, e5, r7⟩ := int_trod (x := y5) (hf 5 _ rfl)
    have e0' : [c0] = [Value.int .i64 k] := e0
    have e1' : [c1] = [Value.int .i64 d] := e1
    have e2' : [c2, c3] = [Value.int .i64 fb, .int .i64 fa] := e2
    have e3' : [c4, c5] = [Value.int .i64 tb, .int .i64 ta] := e3
    have e4' : [c6] = [Value.int .i64 c] := e4
    have e5' : [c7] = [Value.int .i64 r] := e5
    simp only [List.cons.injEq, and_true] at e0' e1' e2' e3' e4' e5'
    obtain ⟨e2', e2''⟩ := e2'
    obtain ⟨e3', e3''⟩ := e3'
    exact ⟨k, d, fb, fa, tb, ta, c, r, by rw [e0', e1', e2', e2'', e3', e3'', e4', e5'], r0, r1, r2, r3, r4, r5, r6, r7⟩
theorem open_Op {r : Reach} {base : Nat} {v : Value} {d : DataW H} {p : List MemPlace} (hval : Value.okWide Tryz.prog w r base 31 v) (h : DataW.Trod enc Tryz.prog w 0 spare held 31 v d p) :
    ∃ k d fb fa tb ta c r, v = .agg #[.int .i64 k, .int .i64 d, .int .i64 fb, .int .i64 fa, .int .i64 tb, .int .i64 ta, .int .i64 c, .int .i64 r] ∧ R64 k ∧ R64 d ∧ R64 fb ∧ R64 fa ∧ R64 tb ∧ R64 ta ∧ R64 c ∧ R64 r := by
  obtain ⟨cs, rfl, _⟩ := okWide_struct Tryz.underlying31 hval
  obtain ⟨fuel, hf⟩ := h
  obtain ⟨k, d, fb, fa, tb, ta, c, r, hc, hr⟩ := op_trod hf
  have hc' : cs.toList = _ := hc
  exact ⟨k, d, fb, fa, tb, ta, c, r, by rw [← hc'], hr⟩
end
end Go.Proofs.YtbefioljddhhpaaGreat
