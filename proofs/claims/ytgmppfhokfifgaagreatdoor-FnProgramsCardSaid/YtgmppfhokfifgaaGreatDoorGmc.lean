/-
  A region whose order is drawn and whose last operation z may break what the loads ask for: S is asked behind every operation but z, and an operation may be taken first if z waits for it.
-/
import Derived.OrdersHeld
import Derived.Deep.RegionHeld
namespace Go.Proofs.YtgmppfhokfifgaaGreatDoor
set_option maxRecDepth 10000

/-- Short names, for the walks that zreg.py prints. -/
theorem sb1 {α : Type} {l : List α} {i : Nat} {a : α} : l.toArray.setIfInBounds i a = (l.set i a).toArray := List.setIfInBounds_toArray ..
theorem sb2 {α : Type} {x : α} {xs : List α} {a : α} : (x :: xs).set 0 a = a :: xs := List.set_cons_zero ..
theorem sb3 {α : Type} {x : α} {xs : List α} {n : Nat} {a : α} : (x :: xs).set (n + 1) a = x :: xs.set n a := List.set_cons_succ ..

section
variable {P : Program} {ops : Array Oper} {Q : Exit → Act → World → Prop} {md : Region.Mode} {S : World → Prop} {z : Nat}

/-- Whatever order is picked; S holds behind each operation but z. -/
def wpZ (P : Program) (md : Region.Mode) (ops : Array Oper) (Q : Exit → Act → World → Prop) (S : World → Prop) (z : Nat) : Nat → Array Bool → Act → World → Prop
  | 0, l, a, w => Region.ready md ops l = [] ∧ Q .normal a w
  | k + 1, l, a, w => (Region.ready md ops l = [] → Q .normal a w) ∧
    ∀ i ∈ Region.ready md ops l, wpOp P ops Q i (fun b v => (i = z ∨ S v) ∧ wpZ P md ops Q S z k (l.setIfInBounds i true) b v) a w

theorem wpZ_any : ∀ (k : Nat) (l : Array Bool) (a : Act) (w : World), wpZ P md ops Q S z k l a w → wpAny P md ops Q k l a w
  | 0, _, _, _, h => h
  | k + 1, _, _, _, h => ⟨h.1, fun i hi => wpOp_mono (fun b v q => wpZ_any k _ b v q.2) (h.2 i hi)⟩

/-- What has come up has come up behind what it waits for. -/
def Clo (md : Region.Mode) (ops : Array Oper) (l : Array Bool) : Prop :=
  ∀ (j : Nat) (o : Oper), ops[j]? = some o → l.getD j false = true → ∀ e ∈ o.after, Region.binds md e = true → l.getD e.on false = true
def cloB (md : Region.Mode) (ops : Array Oper) (l : Array Bool) : Bool :=
  (List.range ops.size).all fun j => match ops[j]? with
    | none => true
    | some o => !l.getD j false || o.after.all fun e => !Region.binds md e || l.getD e.on false
theorem clo_of {l : Array Bool} (h : cloB md ops l = true) : Clo md ops l := fun j o ho hj e he hb => by
  have hlt : j < ops.size := (Array.getElem?_eq_some_iff.1 ho).1
  have h1 := (List.all_eq_true.1 h) j (List.mem_range.2 hlt)
  rw [ho] at h1
  simp only [hj, Bool.not_true, Bool.false_or] at h1
  have h2 := (Array.all_eq_true_iff_forall_mem.1 h1) e he
  simpa [hb] using h2
theorem clo_set {l : Array Bool} (h : Clo md ops l) {i : Nat} (hi : i ∈ Region.ready md ops l) : Clo md ops (l.setIfInBounds i true) := fun j o ho hj e he hb => by
  rcases Nat.decEq i j with ne | rfl
  · rw [getD_set_ne false ne] at hj
    exact getD_set_true (h j o ho hj e he hb)
  · obtain ⟨-, o2, ho2, hall⟩ := mem_ready.1 hi
    rw [ho] at ho2
    cases ho2
    exact getD_set_true (hall e he hb)

/-- z waits for i, at once or by others. -/
def waitsB (md : Region.Mode) (ops : Array Oper) : Nat → Nat → Nat → Bool
  | 0, _, _ => false
  | k + 1, z, i => match ops[z]? with
    | none => false
    | some o => o.after.any fun e => Region.binds md e && (e.on == i || waitsB md ops k e.on i)
theorem waits_of {l : Array Bool} (hc : Clo md ops l) : ∀ (k z i : Nat), waitsB md ops k z i = true → (∀ o, ops[z]? = some o → ∀ e ∈ o.after, Region.binds md e = true → l.getD e.on false = true) → l.getD i false = true
  | 0, _, _, h, _ => by simp [waitsB] at h
  | k + 1, z, i, h, hz => by
    unfold waitsB at h
    cases ho : ops[z]? with
    | none => rw [ho] at h; cases h
    | some o =>
      rw [ho] at h
      have h : (o.after.any fun e => Region.binds md e && (e.on == i || waitsB md ops k e.on i)) = true := h
      rw [← Array.any_toList] at h
      obtain ⟨e, he, h2⟩ := List.any_eq_true.1 h
      have he := Array.mem_toList_iff.1 he
      simp only [Bool.and_eq_true, Bool.or_eq_true, beq_iff_eq] at h2
      have hl := hz o ho e he h2.1
      rcases h2.2 with rfl | h3
      · exact hl
      · exact waits_of hc k e.on i h3 fun o2 ho2 => hc e.on o2 ho2 hl

theorem not_both {l : Array Bool} {i : Nat} (h1 : l.getD i true = false) (h2 : l.getD i false = true) : False := by
  by_cases q : i < l.size
  · simp [q] at h1 h2; rw [h1] at h2; cases h2
  · simp [Array.getElem?_eq_none (Nat.le_of_not_lt q)] at h2

/-- An operation that yields its value in every world that meets S, and for which z waits, may be taken first. -/
theorem wpZ_first {i n : Nat} {o : Oper} {u : Value} (ho : ops[i]? = some o) (hs : ∀ (j : Nat) (o : Oper) cs b, ops[j]? = some o → o.op ≠ .select cs b)
    (hQ : ∀ c a w, Q (.panic c) (a.put o.dst u) w → Q (.panic c) a w) (hz : waitsB md ops n z i = true) : ∀ (k : Nat) (l : Array Bool) (a : Act) (w : World), Clo md ops l →
      (∀ j oj, ops[j]? = some oj → j ≠ i → l.getD j true = false → (∀ e ∈ oj.after, Region.binds md e = true → e.on ≠ i) → o.apart ops oj = true) →
      i ∈ Region.ready md ops l → YieldsIf P ops S o u a → S w → wpZ P md ops Q S z k (l.setIfInBounds i true) (a.put o.dst u) w → wpZ P md ops Q S z (k + 1) l a w
  | 0, l, a, w, _, _, hr, hy, hS, H => by
    refine ⟨fun e => by rw [e] at hr; exact absurd hr (by simp), fun j hj => ?_⟩
    rcases Nat.decEq j i with ne | rfl
    · have := ready_mono hj ne
      rw [H.1] at this
      exact absurd this (by simp)
    · exact hy.wpOp ho hS ⟨.inr hS, H⟩
  | k + 1, l, a, w, hc, hf, hr, hy, hS, H => by
    refine ⟨fun e => by rw [e] at hr; exact absurd hr (by simp), fun j hj => ?_⟩
    rcases Nat.decEq j i with ne | rfl
    · obtain ⟨hju, oj, hoj, hall⟩ := mem_ready.1 hj
      have hiu := (mem_ready.1 hr).1
      have hjz : j ≠ z := fun q => by
        subst q
        exact not_both hiu (waits_of hc n j i hz fun o2 ho2 => by rw [hoj] at ho2; cases ho2; exact hall)
      refine wpOp_mono (fun b v q => ?_) (wpOp_putIf hoj (hf j oj hoj ne hju fun e he hb q => not_both hiu (by rw [← q]; exact hall e he hb)) (fun cs b => hs i o cs b ho) (fun cs b => hs j oj cs b hoj) hQ hy (H.2 j (ready_mono hj ne)))
      have hSv : S v := q.2.1.resolve_left hjz
      refine ⟨.inr hSv, wpZ_first ho hs hQ hz k (l.setIfInBounds j true) b v (clo_set hc hj) (fun m om hm hmi hmu hmn => hf m om hm hmi ?_ hmn) (ready_mono hr (Ne.symm ne)) q.1 hSv ?_⟩
      · by_cases x : j = m
        · subst x; exact hju
        · rw [getD_set_ne true x] at hmu; exact hmu
      · rw [Array.setIfInBounds_comm _ _ ne]; exact q.2.2
    · exact hy.wpOp ho hS ⟨.inr hS, H⟩

/-- Number i may be taken first. -/
theorem wpZ_take (i n : Nat) {o : Oper} {rest : List Oper} {u : Value} {k : Nat} {l : Array Bool} {a : Act} {w : World} (ho : ops.toList.drop i = o :: rest)
    (hk : (Region.noSelect ops && Region.free md ops l i && (Region.ready md ops l).contains i && cloB md ops l && waitsB md ops n z i) = true)
    (hQ : ∀ c a w, Q (.panic c) (a.put o.dst u) w → Q (.panic c) a w) (hy : Region.wanted o (yielded ops a.tmps) = true ∧ ∀ w, S w → (execOp a.eval o).run P w = .ok (.value u) w) (hS : S w)
    (h : wpZ P md ops Q S z k (l.setIfInBounds i true) (a.put o.dst u) w) : wpZ P md ops Q S z (k + 1) l a w := by
  simp only [Bool.and_eq_true] at hk
  obtain ⟨⟨⟨⟨h1, h2⟩, h3⟩, h4⟩, h5⟩ := hk
  have ho2 : ops[i]? = some o := by
    have : (ops.toList.drop i)[0]? = some o := by rw [ho]; rfl
    simpa using this
  exact wpZ_first ho2 (Region.noSelect_spec h1) hQ h5 k l a w (clo_of h4) (Region.free_spec ho2 h2) (by simpa using h3) (.inl hy) hS h

/-- Number i alone may come up; behind it S holds. -/
theorem wpZ_only (i : Nat) {o : Oper} {rest : List Oper} {k : Nat} {l : Array Bool} {a : Act} {w : World} (ho : ops.toList.drop i = o :: rest) (hr : Region.ready md ops l = [i])
    (hw : Region.wanted o (yielded ops a.tmps) = true) (h : ∀ K : Act → World → Prop, Go.Shut (∀ b v, S v → (S v → wpZ P md ops Q S z k (l.setIfInBounds i true) b v) → K b v) → Oper.wp P o a w K Q) : wpZ P md ops Q S z (k + 1) l a w := by
  have ho2 : ops[i]? = some o := by
    have : (ops.toList.drop i)[0]? = some o := by rw [ho]; rfl
    simpa using this
  refine ⟨fun e => by rw [e] at hr; exact absurd hr (by simp), fun j hj => ?_⟩
  rw [hr] at hj
  cases List.mem_singleton.1 hj
  unfold wpOp
  simp only [ho2, hw, if_true]
  exact .inl (h _ fun b v h1 h2 => ⟨.inr h1, h2 h1⟩)

/-- Number z alone is left. -/
theorem wpZ_last {o : Oper} {rest : List Oper} {k : Nat} {l : Array Bool} {a : Act} {w : World} (ho : ops.toList.drop z = o :: rest) (hr : Region.ready md ops l = [z]) (hr2 : Region.ready md ops (l.setIfInBounds z true) = [])
    (hw : Region.wanted o (yielded ops a.tmps) = true) (h : ∀ K : Act → World → Prop, Go.Shut (∀ b v, Q .normal b v → K b v) → Oper.wp P o a w K Q) : wpZ P md ops Q S z (k + 1) l a w := by
  have ho2 : ops[z]? = some o := by
    have : (ops.toList.drop z)[0]? = some o := by rw [ho]; rfl
    simpa using this
  refine ⟨fun e => by rw [e] at hr; exact absurd hr (by simp), fun j hj => ?_⟩
  rw [hr] at hj
  cases List.mem_singleton.1 hj
  unfold wpOp
  simp only [ho2, hw, if_true]
  refine .inl (h _ fun b v h1 => ⟨by simp, ?_⟩)
  cases k with
  | zero => exact ⟨hr2, h1⟩
  | succ k => exact ⟨fun _ => h1, by rw [hr2]; simp⟩

/-- The beginning. -/
theorem wp_region_z (S : World → Prop) (z : Nat) {id : Nat} {a : Act} {w : World} (hm : P.follows .mixedOrders = true) (hS : S w.drew)
    (h : S w.drew → wpZ P .any ops Q S z ops.size (Array.replicate ops.size false) a w.drew) : (Code.region id ops true).wp P Q a w :=
  wp_region_any hm (wpZ_any _ _ _ _ (h hS))
end
end Go.Proofs.YtgmppfhokfifgaaGreatDoor
/-
  Zr, more: two operations may come up.
-/
namespace Go.Proofs.YtgmppfhokfifgaaGreatDoor
set_option maxRecDepth 10000

section
variable {P : Program} {ops : Array Oper} {Q : Exit → Act → World → Prop} {md : Region.Mode} {S : World → Prop} {z : Nat}
/-- Number i or number j comes up; behind either S holds. -/
theorem wpZ_two (i j : Nat) {o o2 : Oper} {rest rest2 : List Oper} {k : Nat} {l : Array Bool} {a : Act} {w : World} (ho : ops.toList.drop i = o :: rest) (ho2 : ops.toList.drop j = o2 :: rest2) (hr : Region.ready md ops l = [i, j])
    (hw : Region.wanted o (yielded ops a.tmps) = true) (hw2 : Region.wanted o2 (yielded ops a.tmps) = true)
    (h : ∀ K : Act → World → Prop, Go.Shut (∀ b v, S v → (S v → wpZ P md ops Q S z k (l.setIfInBounds i true) b v) → K b v) → Oper.wp P o a w K Q)
    (h2 : ∀ K : Act → World → Prop, Go.Shut (∀ b v, S v → (S v → wpZ P md ops Q S z k (l.setIfInBounds j true) b v) → K b v) → Oper.wp P o2 a w K Q) : wpZ P md ops Q S z (k + 1) l a w := by
  have e1 : ops[i]? = some o := by
    have : (ops.toList.drop i)[0]? = some o := by rw [ho]; rfl
    simpa using this
  have e2 : ops[j]? = some o2 := by
    have : (ops.toList.drop j)[0]? = some o2 := by rw [ho2]; rfl
    simpa using this
  refine ⟨fun e => by rw [e] at hr; exact absurd hr (by simp), fun n hn => ?_⟩
  rw [hr] at hn
  simp only [List.mem_cons, List.not_mem_nil, or_false] at hn
  rcases hn with rfl | rfl
  · unfold wpOp
    simp only [e1, hw, if_true]
    exact .inl (h _ fun b v q1 q2 => ⟨.inr q1, q2 q1⟩)
  · unfold wpOp
    simp only [e2, hw2, if_true]
    exact .inl (h2 _ fun b v q1 q2 => ⟨.inr q1, q2 q1⟩)
end
end Go.Proofs.YtgmppfhokfifgaaGreatDoor
