/-
  Zr, more: two operations may come up.
-/
import Derived.Test.YtgmppfhokfifgaaZr
namespace Go.Proofs.Ytgmppfhokfifgaa
set_option maxRecDepth 10000

section
variable {P : Program} {ops : Array Oper} {Q : Exit → Act → World → Prop} {md : Region.Mode} {S : World → Prop} {z : Nat}
/-- Number i or number j comes up; behind either S holds. -/
theorem wpZ_two (i j : Nat) {o o2 : Oper} {rest rest2 : List Oper} {k : Nat} {l : Array Bool} {a : Act} {w : World} (ho : ops.toList.drop i = o :: rest) (ho2 : ops.toList.drop j = o2 :: rest2) (hr : Region.ready md ops l = [i, j])
    (hw : Region.wanted o (yielded ops a.tmps) = true) (hw2 : Region.wanted o2 (yielded ops a.tmps) = true)
    (h : ∀ K : Act → World → Prop, Go.Shut (∀ b v, S v → (S v → wpZ P md ops Q S z k (l.setIfInBounds i true) b v) → K b v) → Oper.wp P o a w K Q)
    (h2 : ∀ K : Act → World → Prop, Go.Shut (∀ b v, S v → (S v → wpZ P md ops Q S z k (l.setIfInBounds j true) b v) → K b v) → Oper.wp P o2 a w K Q) : wpZ P md ops Q S z (k + 1) l a w := by
  have e1 : ops[i]? = some o := by
    have : (ops.toList.drop i)[0]? = some o := by rw [ho]; rfl
    simpa using this
  have e2 : ops[j]? = some o2 := by
    have : (ops.toList.drop j)[0]? = some o2 := by rw [ho2]; rfl
    simpa using this
  refine ⟨fun e => by rw [e] at hr; exact absurd hr (by simp), fun n hn => ?_⟩
  rw [hr] at hn
  simp only [List.mem_cons, List.not_mem_nil, or_false] at hn
  rcases hn with rfl | rfl
  · unfold wpOp
    simp only [e1, hw, if_true]
    exact .inl (h _ fun b v q1 q2 => ⟨.inr q1, q2 q1⟩)
  · unfold wpOp
    simp only [e2, hw2, if_true]
    exact .inl (h2 _ fun b v q1 q2 => ⟨.inr q1, q2 q1⟩)
end
end Go.Proofs.Ytgmppfhokfifgaa
