/-
  Contracts: copies and joins of []int64 (slices.Clone, slices.Concat of two, slices.Grow of nil, the reference's l00Own).
-/
import Derived.Test.YtgmppfhokfifgaaBase
import Derived.Lib.AppendZeros
namespace Go.Proofs.Ytgmppfhokfifgaa
set_option maxRecDepth 10000
open Go.RowKit

/-- append of a whole slice to a row of the call's own. -/
theorem wpList_append_list {ops : Array Oper} {rest : List Oper} {o : Oper} {a : Act} {Q : Exit → Act → World → Prop} (hgd : o.guard = none) (s x : Operand)
    (ho : o.op = .call { callee := .builtin .append, args := #[s, x], argTypes := #[32, 32] })
    (w : World) (lo hi B : Nat) (v u : Value) (xs ys : List Int) (hs : a.eval s = v) (hx : a.eval x = u)
    (hown : Ow w lo hi v xs) (hu : Sl w B u ys) (hlo : lo ≤ w.heap.size) (hlen : xs.length + ys.length ≤ 1000000000)
    (h : ∀ v' w', Ow w' lo w'.heap.size v' (xs ++ ys) → w.grownBy w' v.ownBlock → (v'.ownBlock = v.ownBlock ∨ ∀ g, v'.ownBlock = some g → w.heap.size ≤ g) → wpList Try.prog ops Q rest (a.put o.dst v') w') :
    wpList Try.prog ops Q (o :: rest) a w := by
  obtain ⟨i0, hi0, hz0, hz1, hz2⟩ := info_parts i64_info
  obtain ⟨A, c, rfl, hl, hm, hn, hcell⟩ := hu
  refine wpList_plain hgd fun K hK => ?_
  cases A with
  | none =>
    obtain rfl := hn rfl
    obtain rfl : ys = [] := List.eq_nil_of_length_eq_zero (by omega)
    have hr := run_append_owned_none (P := Try.prog) w lo 32 o.type 2 i0 1 Try.underlying32 hi0 v xs.length (vals xs) hown.1
    unfold Oper.wp execOp
    simp only [ho, resolve, invoke, builtin, Sem.run_bind, Sem.run_pure, Result.andThen_ok, List.map_toArray, List.map_cons, List.map_nil, hs, hx, List.length_nil, hr]
    refine hK _ _ (h v w (by rw [List.append_nil]; exact ⟨hown.1, fun g hg => (hown.1.lt g hg).2⟩) (World.grownBy.refl _ _) (.inl rfl))
  | some ad =>
    have hc : ∀ j u, (vals ys)[j]? = some u → w.cell? (ad.add j) = some u := by
      intro j u hu
      have hj : j < ys.length := by have := (List.getElem?_eq_some_iff.1 hu).1; rwa [vals_len] at this
      obtain ⟨b, off, e, _, hcc⟩ := hcell (by omega)
      injection e with e
      subst e
      rw [vals_get hj] at hu
      injection hu with hu
      rw [Addr.add_lit, hcc j hj, hu]
    obtain ⟨v', w', hr, h2, h3, h4⟩ := run_append_own_at (P := Try.prog) w lo 32 o.type 2 i0 (.int .i64 0) 1 8 Try.underlying32 hi0 hz0 hz1 hz2 rfl (by decide) v xs.length (vals xs) hown.1
      ad ys.length c (vals ys) (by rw [vals_len]; omega) hc (vals_one ys) (by simp only [maxLen]; omega) (by omega) hlo
    unfold Oper.wp execOp
    simp only [ho, resolve, invoke, builtin, Sem.run_bind, Sem.run_pure, Result.andThen_ok, List.map_toArray, List.map_cons, List.map_nil, hs, hx, hr]
    refine hK _ _ (h v' w' (Ow.of_own h2 (by simp) (by rw [vals_append])) h3 ?_)
    rcases h4.2 with h4 | h4
    · exact .inl h4
    · exact .inr fun g hg => by rw [h4] at hg; injection hg with hg; omega

/-- The same inside a region that draws its order (go_region_held3). -/
theorem step_append_list {ops : Array Oper} {o : Oper} {a : Act} {K : Act → World → Prop} {Q : Exit → Act → World → Prop} {E : Prop} (hgd : o.guard = none) (s x : Operand)
    (ho : o.op = .call { callee := .builtin .append, args := #[s, x], argTypes := #[32, 32] })
    (w : World) (lo hi B : Nat) (v u : Value) (xs ys : List Int) (hs : a.eval s = v) (hx : a.eval x = u)
    (hown : Ow w lo hi v xs) (hu : Sl w B u ys) (hlo : lo ≤ w.heap.size) (hlen : xs.length + ys.length ≤ 1000000000)
    (h : ∀ v' w', Ow w' lo w'.heap.size v' (xs ++ ys) → w.grownBy w' v.ownBlock → K (a.put o.dst v') w') :
    if Region.wanted o (yielded ops a.tmps) = true then Oper.wp Try.prog o a w K Q else E := by
  have hw : Region.wanted o (yielded ops a.tmps) = true := by simp [Region.wanted, hgd]
  rw [if_pos hw]
  obtain ⟨i0, hi0, hz0, hz1, hz2⟩ := info_parts i64_info
  obtain ⟨A, c, rfl, hl, hm, hn, hcell⟩ := hu
  cases A with
  | none =>
    obtain rfl := hn rfl
    obtain rfl : ys = [] := List.eq_nil_of_length_eq_zero (by omega)
    have hr := run_append_owned_none (P := Try.prog) w lo 32 o.type 2 i0 1 Try.underlying32 hi0 v xs.length (vals xs) hown.1
    unfold Oper.wp execOp
    simp only [ho, resolve, invoke, builtin, Sem.run_bind, Sem.run_pure, Result.andThen_ok, List.map_toArray, List.map_cons, List.map_nil, hs, hx, List.length_nil, hr]
    exact h v w (by rw [List.append_nil]; exact ⟨hown.1, fun g hg => (hown.1.lt g hg).2⟩) (World.grownBy.refl _ _)
  | some ad =>
    have hc : ∀ j u, (vals ys)[j]? = some u → w.cell? (ad.add j) = some u := by
      intro j u hu
      have hj : j < ys.length := by have := (List.getElem?_eq_some_iff.1 hu).1; rwa [vals_len] at this
      obtain ⟨b, off, e, _, hcc⟩ := hcell (by omega)
      injection e with e
      subst e
      rw [vals_get hj] at hu
      injection hu with hu
      rw [Addr.add_lit, hcc j hj, hu]
    obtain ⟨v', w', hr, h2, h3, h4⟩ := run_append_own_at (P := Try.prog) w lo 32 o.type 2 i0 (.int .i64 0) 1 8 Try.underlying32 hi0 hz0 hz1 hz2 rfl (by decide) v xs.length (vals xs) hown.1
      ad ys.length c (vals ys) (by rw [vals_len]; omega) hc (vals_one ys) (by simp only [maxLen]; omega) (by omega) hlo
    unfold Oper.wp execOp
    simp only [ho, resolve, invoke, builtin, Sem.run_bind, Sem.run_pure, Result.andThen_ok, List.map_toArray, List.map_cons, List.map_nil, hs, hx, hr]
    exact h v' w' (Ow.of_own h2 (by simp) (by rw [vals_append])) h3

set_option maxHeartbeats 400000 in
theorem l00Own_any (v : Value) (xs : List Int) (B : Nat) (w : World) (h : Sl w B v xs) (hB : B ≤ w.heap.size) (hsz : xs.length ≤ 1000000) :
    Calls Try.prog 38 #[v] w fun e w' => ∃ r, e = .returned r ∧ Ow w' w.heap.size w'.heap.size r xs ∧ Below w.heap.size w w' := by
  have h1 := h.below (al1 w (.cells #[] 2)) hB
  have hO := Ow.empty w
  go_enter Try.func38, Try.ntmps38
  go_wp2_with (at_builtin; refine wpList_append_list rfl _ _ rfl _ _ _ _ _ _ _ _ rfl rfl hO h1 (by simp) (by simp; omega) ?_; intro v1 w1 hO1 hg1 _)
  have hbw := hO.grown hg1 (Nat.le_refl _) (by simp)
  go_ret
  exact ⟨_, rfl, hO1, (al1 _ _).trans hbw⟩
end Go.Proofs.Ytgmppfhokfifgaa
