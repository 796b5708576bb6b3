/-
  What the arguments of a law read as, in the words of Base: numbers, slices of numbers.
-/
import Derived.Test.YtpiodiliifnckaaDoorBase
import Derived.ProofKit
import Derived.OpenShut
import Derived.ShutString
import Derived.ChangeOld
import Derived.Deep.Slices
namespace Go.Proofs.YtpiodiliifnckaaDoor
set_option maxRecDepth 10000
open Go.RowKit Go.ChangeShapes Go.WideShapes

theorem own_knob : ownKnob Tryd.prog.godebug = none := by kernel_rfl
theorem laid_out : laidOutB Tryd.prog = true := by kernel_rfl

/-- A number of 64 bits. -/
def R64 (x : Int) : Prop := -9223372036854775808 ≤ x ∧ x ≤ 9223372036854775807
theorem r64_of_wf {x : Int} (h : (Lit.int .i64 x).wf = true) : R64 x := by
  simp only [Lit.wf, IntKind.min, IntKind.max, IntKind.signed, IntKind.bits, Bool.and_eq_true, decide_eq_true_eq, if_true] at h
  unfold R64
  omega
theorem addr_of_cell {w : World} {a : Addr} {v : Value} (h : w.cell? a = some v) : a = ⟨a.block, a.off, none⟩ ∧ a.block < w.heap.size := by
  refine ⟨?_, block_lt_of_cell h⟩
  obtain ⟨b, off, spot⟩ := a
  cases spot with
  | none => rfl
  | some s =>
    unfold World.cell? at h
    split at h <;> simp at h

section
variable {H : Type} {enc : TypeId × Value → H} {w : World} {spare : Nat → Bool} {held : Bool}
theorem open_I {r : Reach} {base : Nat} {v : Value} {d : DataW H} {p : List MemPlace} (hval : Value.okWide Tryd.prog w r base 2 v) (h : DataW.Trod enc Tryd.prog w 0 spare held 2 v d p) :
    ∃ x, v = .int .i64 x ∧ R64 x := by
  obtain ⟨x, rfl, _, _, hw⟩ := open_int Tryd.underlying2 hval h
  exact ⟨x, rfl, r64_of_wf hw⟩
end
section
variable {H : Type} {enc : TypeId × Value → H} {w : World} {spare : Nat → Bool} {held : Bool}
theorem int_trod {fuel : Nat} {cs : List Value} {x : DataW H × List MemPlace} (h : DataW.trod enc Tryd.prog w 0 spare held fuel 2 cs = some x) : ∃ n, cs = [.int .i64 n] ∧ R64 n := by
  obtain ⟨n, hc, _, hw⟩ := DataW.trod_int Tryd.underlying2 h
  exact ⟨n, hc, r64_of_wf hw⟩
theorem needle_trod {fuel : Nat} {cs : List Value} {x : DataW H × List MemPlace} (h : DataW.trod enc Tryd.prog w 0 spare held fuel 29 cs = some x) : ∃ b a, cs = [.int .i64 b, .int .i64 a] ∧ R64 b ∧ R64 a := by
  obtain ⟨xs, n, _, _, hl, hlen, hf⟩ := DataW.trod_struct Tryd.underlying29 h
  have hl' : cs.length = 2 := hl.trans (by kernel_rfl)
  match cs, hl', xs, hlen with
  | [c0, c1], _, [y0, y1], _ =>
    obtain ⟨b, e0, r0⟩ := int_trod (x := y0) (hf 0 _ rfl)
    obtain ⟨a, e1, r1⟩ := int_trod (x := y1) (hf 1 _ rfl)
    have e0' : [c0] = [Value.int .i64 b] := e0
    have e1' : [c1] = [Value.int .i64 a] := e1
    injection e0' with e0'
    injection e1' with e1'
    exact ⟨b, a, by rw [e0', e1'], r0, r1⟩
theorem open_Needle {r : Reach} {base : Nat} {v : Value} {d : DataW H} {p : List MemPlace} (hval : Value.okWide Tryd.prog w r base 29 v) (h : DataW.Trod enc Tryd.prog w 0 spare held 29 v d p) :
    ∃ b a, v = .agg #[.int .i64 b, .int .i64 a] ∧ R64 b ∧ R64 a := by
  obtain ⟨cs, rfl, _⟩ := okWide_struct Tryd.underlying29 hval
  obtain ⟨fuel, hf⟩ := h
  obtain ⟨b, a, hc, hr⟩ := needle_trod hf
  have hc' : cs.toList = _ := hc
  exact ⟨b, a, by rw [← hc'], hr⟩
theorem op_trod {fuel : Nat} {cs : List Value} {x : DataW H × List MemPlace} (h : DataW.trod enc Tryd.prog w 0 spare held fuel 31 cs = some x) :
    ∃ k d fb fa tb ta c r, cs = [.int .i64 k, .int .i64 d, .int .i64 fb, .int .i64 fa, .int .i64 tb, .int .i64 ta, .int .i64 c, .int .i64 r] ∧ R64 k ∧ R64 d ∧ R64 fb ∧ R64 fa ∧ R64 tb ∧ R64 ta ∧ R64 c ∧ R64 r := by
  obtain ⟨xs, n, _, _, hl, hlen, hf⟩ := DataW.trod_struct Tryd.underlying31 h
  have hl' : cs.length = 8 := hl.trans (by kernel_rfl)
  match cs, hl', xs, hlen with
  | [c0, c1, c2, c3, c4, c5, c6, c7], _, [y0, y1, y2, y3, y4, y5], _ =>
    obtain ⟨k, e0, r0⟩ := int_trod (x := y0) (hf 0 _ rfl)
    obtain ⟨d, e1, r1⟩ := int_trod (x := y1) (hf 1 _ rfl)
    obtain ⟨fb, fa, e2, r2, r3⟩ := needle_trod (x := y2) (hf 2 _ rfl)
    obtain ⟨tb, ta, e3, r4, r5⟩ := needle_trod (x := y3) (hf 3 _ rfl)
    obtain ⟨c, e4, r6⟩ := int_trod (x := y4) (hf 4 _ rfl)
    obtain ⟨r, e5, r7⟩ := int_trod (x := y5) (hf 5 _ rfl)
    have e0' : [c0] = [Value.int .i64 k] := e0
    have e1' : [c1] = [Value.int .i64 d] := e1
    have e2' : [c2, c3] = [Value.int .i64 fb, .int .i64 fa] := e2
    have e3' : [c4, c5] = [Value.int .i64 tb, .int .i64 ta] := e3
    have e4' : [c6] = [Value.int .i64 c] := e4
    have e5' : [c7] = [Value.int .i64 r] := e5
    simp only [List.cons.injEq, and_true] at e0' e1' e2' e3' e4' e5'
    obtain ⟨e2', e2''⟩ := e2'
    obtain ⟨e3', e3''⟩ := e3'
    exact ⟨k, d, fb, fa, tb, ta, c, r, by rw [e0', e1', e2', e2'', e3', e3'', e4', e5'], r0, r1, r2, r3, r4, r5, r6, r7⟩
theorem open_Op {r : Reach} {base : Nat} {v : Value} {d : DataW H} {p : List MemPlace} (hval : Value.okWide Tryd.prog w r base 31 v) (h : DataW.Trod enc Tryd.prog w 0 spare held 31 v d p) :
    ∃ k d fb fa tb ta c r, v = .agg #[.int .i64 k, .int .i64 d, .int .i64 fb, .int .i64 fa, .int .i64 tb, .int .i64 ta, .int .i64 c, .int .i64 r] ∧ R64 k ∧ R64 d ∧ R64 fb ∧ R64 fa ∧ R64 tb ∧ R64 ta ∧ R64 c ∧ R64 r := by
  obtain ⟨cs, rfl, _⟩ := okWide_struct Tryd.underlying31 hval
  obtain ⟨fuel, hf⟩ := h
  obtain ⟨k, d, fb, fa, tb, ta, c, r, hc, hr⟩ := op_trod hf
  have hc' : cs.toList = _ := hc
  exact ⟨k, d, fb, fa, tb, ta, c, r, by rw [← hc'], hr⟩
theorem pass_trod {fuel : Nat} {cs : List Value} {x : DataW H × List MemPlace} (h : DataW.trod enc Tryd.prog w 0 spare held fuel 23 cs = some x) :
    ∃ k d c r f n, cs = [.int .i64 k, .int .i64 d, .int .i64 c, .int .i64 r, .int .i64 f, .int .i64 n] ∧ R64 k ∧ R64 d ∧ R64 c ∧ R64 r ∧ R64 f ∧ R64 n := by
  obtain ⟨xs, n, _, _, hl, hlen, hf⟩ := DataW.trod_struct Tryd.underlying23 h
  have hl' : cs.length = 6 := hl.trans (by kernel_rfl)
  match cs, hl', xs, hlen with
  | [c0, c1, c2, c3, c4, c5], _, [y0, y1, y2, y3, y4, y5], _ =>
    obtain ⟨x0, e0, r0⟩ := int_trod (x := y0) (hf 0 _ rfl)
    obtain ⟨x1, e1, r1⟩ := int_trod (x := y1) (hf 1 _ rfl)
    obtain ⟨x2, e2, r2⟩ := int_trod (x := y2) (hf 2 _ rfl)
    obtain ⟨x3, e3, r3⟩ := int_trod (x := y3) (hf 3 _ rfl)
    obtain ⟨x4, e4, r4⟩ := int_trod (x := y4) (hf 4 _ rfl)
    obtain ⟨x5, e5, r5⟩ := int_trod (x := y5) (hf 5 _ rfl)
    have e0' : [c0] = [Value.int .i64 x0] := e0
    have e1' : [c1] = [Value.int .i64 x1] := e1
    have e2' : [c2] = [Value.int .i64 x2] := e2
    have e3' : [c3] = [Value.int .i64 x3] := e3
    have e4' : [c4] = [Value.int .i64 x4] := e4
    have e5' : [c5] = [Value.int .i64 x5] := e5
    simp only [List.cons.injEq, and_true] at e0' e1' e2' e3' e4' e5'
    exact ⟨x0, x1, x2, x3, x4, x5, by rw [e0', e1', e2', e3', e4', e5'], r0, r1, r2, r3, r4, r5⟩
theorem open_Pass {r : Reach} {base : Nat} {v : Value} {d : DataW H} {p : List MemPlace} (hval : Value.okWide Tryd.prog w r base 23 v) (h : DataW.Trod enc Tryd.prog w 0 spare held 23 v d p) :
    ∃ k d c r f n, v = .agg #[.int .i64 k, .int .i64 d, .int .i64 c, .int .i64 r, .int .i64 f, .int .i64 n] ∧ R64 k ∧ R64 d ∧ R64 c ∧ R64 r ∧ R64 f ∧ R64 n := by
  obtain ⟨cs, rfl, _⟩ := okWide_struct Tryd.underlying23 hval
  obtain ⟨fuel, hf⟩ := h
  obtain ⟨k, d, c, r, f, n, hc, hr⟩ := pass_trod hf
  have hc' : cs.toList = _ := hc
  exact ⟨k, d, c, r, f, n, by rw [← hc'], hr⟩
end
end Go.Proofs.YtpiodiliifnckaaDoor
