/-
  Contracts: copies and joins of []int64 (slices.Clone, slices.Concat of two, slices.Grow of nil, the reference's l00Own).
-/
import Derived.Test.YtgmppfhokfifgaaGreatDoorBase
import Derived.Lib.AppendZeros
namespace Go.Proofs.YtgmppfhokfifgaaGreatDoor
set_option maxRecDepth 10000
open Go.RowKit

/-- append of a whole slice to a row of the call's own. -/
theorem wpList_append_list {ops : Array Oper} {rest : List Oper} {o : Oper} {a : Act} {Q : Exit → Act → World → Prop} (hgd : o.guard = none) (s x : Operand)
    (ho : o.op = .call { callee := .builtin .append, args := #[s, x], argTypes := #[33, 33] })
    (w : World) (lo hi B : Nat) (v u : Value) (xs ys : List Int) (hs : a.eval s = v) (hx : a.eval x = u)
    (hown : Ow w lo hi v xs) (hu : Sl w B u ys) (hlo : lo ≤ w.heap.size) (hlen : xs.length + ys.length ≤ 1000000000)
    (h : ∀ v' w', Ow w' lo w'.heap.size v' (xs ++ ys) → w.grownBy w' v.ownBlock → (v'.ownBlock = v.ownBlock ∨ ∀ g, v'.ownBlock = some g → w.heap.size ≤ g) → wpList Tryz.prog ops Q rest (a.put o.dst v') w') :
    wpList Tryz.prog ops Q (o :: rest) a w := by
  obtain ⟨i0, hi0, hz0, hz1, hz2⟩ := info_parts i64_info
  obtain ⟨A, c, rfl, hl, hm, hn, hcell⟩ := hu
  refine wpList_plain hgd fun K hK => ?_
  cases A with
  | none =>
    obtain rfl := hn rfl
    obtain rfl : ys = [] := List.eq_nil_of_length_eq_zero (by omega)
    have hr := run_append_owned_none (P := Tryz.prog) w lo 33 o.type 2 i0 1 Tryz.underlying33 hi0 v xs.length (vals xs) hown.1
    unfold Oper.wp execOp
    simp only [ho, resolve, invoke, builtin, Sem.run_bind, Sem.run_pure, Result.andThen_ok, List.map_toArray, List.map_cons, List.map_nil, hs, hx, List.length_nil, hr]
    refine hK _ _ (h v w (by rw [List.append_nil]; exact ⟨hown.1, fun g hg => (hown.1.lt g hg).2⟩) (World.grownBy.refl _ _) (.inl rfl))
  | some ad =>
    have hc : ∀ j u, (vals ys)[j]? = some u → w.cell? (ad.add j) = some u := by
      intro j u hu
      have hj : j < ys.length := by have := (List.getElem?_eq_some_iff.1 hu).1; rwa [vals_len] at this
      obtain ⟨b, off, e, _, hcc⟩ := hcell (by omega)
      injection e with e
      subst e
      rw [vals_get hj] at hu
      injection hu with hu
      rw [Addr.add_lit, hcc j hj, hu]
    obtain ⟨v', w', hr, h2, h3, h4⟩ := run_append_own_at (P := Tryz.prog) w lo 33 o.type 2 i0 (.int .i64 0) 1 8 Tryz.underlying33 hi0 hz0 hz1 hz2 rfl (by decide) v xs.length (vals xs) hown.1
      ad ys.length c (vals ys) (by rw [vals_len]; omega) hc (vals_one ys) (by simp only [maxLen]; omega) (by omega) hlo
    unfold Oper.wp execOp
    simp only [ho, resolve, invoke, builtin, Sem.run_bind, Sem.run_pure, Result.andThen_ok, List.map_toArray, List.map_cons, List.map_nil, hs, hx, hr]
    refine hK _ _ (h v' w' (Ow.of_own h2 (by simp) (by rw [vals_append])) h3 ?_)
    rcases h4.2 with h4 | h4
    · exact .inl h4
    · exact .inr fun g hg => by rw [h4] at hg; injection hg with hg; omega

/-- The same inside a region that draws its order (go_region_held3). -/
theorem step_append_list {ops : Array Oper} {o : Oper} {a : Act} {K : Act → World → Prop} {Q : Exit → Act → World → Prop} {E : Prop} (hgd : o.guard = none) (s x : Operand)
    (ho : o.op = .call { callee := .builtin .append, args := #[s, x], argTypes := #[33, 33] })
    (w : World) (lo hi B : Nat) (v u : Value) (xs ys : List Int) (hs : a.eval s = v) (hx : a.eval x = u)
    (hown : Ow w lo hi v xs) (hu : Sl w B u ys) (hlo : lo ≤ w.heap.size) (hlen : xs.length + ys.length ≤ 1000000000)
    (h : ∀ v' w', Ow w' lo w'.heap.size v' (xs ++ ys) → w.grownBy w' v.ownBlock → K (a.put o.dst v') w') :
    if Region.wanted o (yielded ops a.tmps) = true then Oper.wp Tryz.prog o a w K Q else E := by
  have hw : Region.wanted o (yielded ops a.tmps) = true := by simp [Region.wanted, hgd]
  rw [if_pos hw]
  obtain ⟨i0, hi0, hz0, hz1, hz2⟩ := info_parts i64_info
  obtain ⟨A, c, rfl, hl, hm, hn, hcell⟩ := hu
  cases A with
  | none =>
    obtain rfl := hn rfl
    obtain rfl : ys = [] := List.eq_nil_of_length_eq_zero (by omega)
    have hr := run_append_owned_none (P := Tryz.prog) w lo 33 o.type 2 i0 1 Tryz.underlying33 hi0 v xs.length (vals xs) hown.1
    unfold Oper.wp execOp
    simp only [ho, resolve, invoke, builtin, Sem.run_bind, Sem.run_pure, Result.andThen_ok, List.map_toArray, List.map_cons, List.map_nil, hs, hx, List.length_nil, hr]
    exact h v w (by rw [List.append_nil]; exact ⟨hown.1, fun g hg => (hown.1.lt g hg).2⟩) (World.grownBy.refl _ _)
  | some ad =>
    have hc : ∀ j u, (vals ys)[j]? = some u → w.cell? (ad.add j) = some u := by
      intro j u hu
      have hj : j < ys.length := by have := (List.getElem?_eq_some_iff.1 hu).1; rwa [vals_len] at this
      obtain ⟨b, off, e, _, hcc⟩ := hcell (by omega)
      injection e with e
      subst e
      rw [vals_get hj] at hu
      injection hu with hu
      rw [Addr.add_lit, hcc j hj, hu]
    obtain ⟨v', w', hr, h2, h3, h4⟩ := run_append_own_at (P := Tryz.prog) w lo 33 o.type 2 i0 (.int .i64 0) 1 8 Tryz.underlying33 hi0 hz0 hz1 hz2 rfl (by decide) v xs.length (vals xs) hown.1
      ad ys.length c (vals ys) (by rw [vals_len]; omega) hc (vals_one ys) (by simp only [maxLen]; omega) (by omega) hlo
    unfold Oper.wp execOp
    simp only [ho, resolve, invoke, builtin, Sem.run_bind, Sem.run_pure, Result.andThen_ok, List.map_toArray, List.map_cons, List.map_nil, hs, hx, hr]
    exact h v' w' (Ow.of_own h2 (by simp) (by rw [vals_append])) h3

set_option maxHeartbeats 400000 in
theorem l00Own_any (v : Value) (xs : List Int) (B : Nat) (w : World) (h : Sl w B v xs) (hB : B ≤ w.heap.size) (hsz : xs.length ≤ 1000000) :
    Calls Tryz.prog 116 #[v] w fun e w' => ∃ r, e = .returned r ∧ Ow w' w.heap.size w'.heap.size r xs ∧ Below w.heap.size w w' := by
  have h1 := h.below (al1 w (.cells #[] 2)) hB
  have hO := Ow.empty w
  go_enter Tryz.func116, Tryz.ntmps116
  go_wp2_with (at_builtin; refine wpList_append_list rfl _ _ rfl _ _ _ _ _ _ _ _ rfl rfl hO h1 (by simp) (by simp; omega) ?_; intro v1 w1 hO1 hg1 _)
  have hbw := hO.grown hg1 (Nat.le_refl _) (by simp)
  go_ret
  exact ⟨_, rfl, hO1, (al1 _ _).trans hbw⟩
set_option maxHeartbeats 400000 in
theorem cloneInts_any (v : Value) (xs : List Int) (B : Nat) (w : World) (h : Sl w B v xs) (hB : B ≤ w.heap.size) (hsz : xs.length ≤ 1000000) :
    Calls Tryz.prog 131 #[v] w fun e w' => ∃ r, e = .returned r ∧ Ow w' w.heap.size w'.heap.size r xs ∧ Below w.heap.size w w' := by
  obtain ⟨A, c, e1, hl, hm, hn, _⟩ := id h
  cases A with
  | none =>
    have h0 := hn rfl
    subst h0
    obtain rfl : xs = [] := List.eq_nil_of_length_eq_zero (by omega)
    subst e1
    have hq := fun W => Lib.run_eql_slice_nil (P := Tryz.prog) W 33 2 none 0 0 0 0 Tryz.underlying33
    go_enter Tryz.func131, Tryz.ntmps131
    go_wp2
    go_ret
    exact ⟨_, rfl, Ow.nil _ _ _, Below.refl _ _⟩
  | some ad =>
    subst e1
    have hq := fun W => Lib.run_eql_slice_nil (P := Tryz.prog) W 33 2 (some ad) xs.length c 0 0 Tryz.underlying33
    have h1 := h.below (al1 w (.cells #[] 2)) hB
    have hO := Ow.empty w
    go_enter Tryz.func131, Tryz.ntmps131
    go_wp2_with (at_builtin; refine wpList_append_list rfl _ _ rfl _ _ _ _ _ _ _ _ rfl rfl hO h1 (by simp) (by simp; omega) ?_; intro v1 w1 hO1 hg1 _)
    have hbw := hO.grown hg1 (Nat.le_refl _) (by simp)
    go_ret
    exact ⟨_, rfl, hO1, (al1 _ _).trans hbw⟩
theorem u3 : Tryz.prog.underlying 3 = some (.int .i64) := Tryz.underlying3
set_option maxHeartbeats 800000 in
theorem growNil_any (n : Nat) (w : World) (hn : n ≤ 100000000) :
    Calls Tryz.prog 155 #[.slice none 0 0, .int .i64 n] w fun e w' => ∃ r, e = .returned r ∧ Ow w' w.heap.size w'.heap.size r [] ∧ Below w.heap.size w w' := by
  obtain ⟨i0, hi0, hz0, hz1, hz2⟩ := info_parts i64_info
  rcases Nat.eq_zero_or_pos n with rfl | hp
  · go_enter Tryz.func155, Tryz.ntmps155
    go_wp2
    go_ret
    exact ⟨_, rfl, Ow.nil _ _ _, Below.refl _ _⟩
  · have hge := grownCap_ge w n 0 2
    have hle := grownCap_le_maxLen w n 0 2 (by unfold maxLen; omega)
    have hr := Lib.run_append_nil_zeros (P := Tryz.prog) w 33 3 33 2 i0 (.int .i64 0) .i64 .i64 Tryz.underlying33 Tryz.underlying3 hi0 hz0 n hp (by omega) (by omega) (by rw [hz2]; omega)
    have hown : ((w.drew.alloc (.cells (Builtin.zeroCells (Value.int .i64 0).cells n ++ Builtin.zeroCells (Value.int .i64 0).cells (grownCap w n 0 2 - n)) 2)).ownsRow w.heap.size 2 1 (.slice (some ⟨w.heap.size, 0, none⟩) 0 (grownCap w n 0 2)) 0 []) :=
      World.ownsRow_made w.drew _ (grownCap w n 0 2) (Nat.le_refl _) hle (by rw [Array.size_append, size_zeroCells, size_zeroCells]; show n * 1 + (grownCap w n 0 2 - n) * 1 = _; omega)
    have hO : Ow _ w.heap.size _ _ [] := Ow.of_own hown rfl rfl
    have hb : Below w.heap.size w (w.drew.alloc (.cells (Builtin.zeroCells (Value.int .i64 0).cells n ++ Builtin.zeroCells (Value.int .i64 0).cells (grownCap w n 0 2 - n)) 2)) := (Below.refl _ _).drew.alloc (Nat.le_refl _) _
    unfold maxLen at hle
    have HR := Lib.hid hr
    have HO := Lib.hid hO
    have HB := Lib.hid hb
    clear hr hO hb hown
    generalize hC : grownCap w n 0 2 = C at *
    generalize hW : w.drew.alloc (.cells (Builtin.zeroCells (Value.int .i64 0).cells n ++ Builtin.zeroCells (Value.int .i64 0).cells (C - n)) 2) = W at *
    clear hC hW
    have hc0 : ¬ C = 0 := by omega
    go_enter Tryz.func155, Tryz.ntmps155
    go_wp2_with (at_builtin; refine Lib.wpList_append_run _ rfl _ _ _ _ rfl _ _ rfl rfl _ _ HR.out ?_)
    go_ret
    exact ⟨_, rfl, HO.out, HB.out⟩
set_option maxHeartbeats 1600000 in
/-- slices.Concat of two. -/
theorem concat2_any (g : Nat) (v1 v2 : Value) (xs ys : List Int) (B : Nat) (w : World) (h1 : Sl w B v1 xs) (h2 : Sl w B v2 ys) (hB : B ≤ w.heap.size) (c1 : w.cell? ⟨g, 0, none⟩ = some v1) (c2 : w.cell? ⟨g, 1, none⟩ = some v2)
    (hx : xs.length ≤ 1000000) (hy : ys.length ≤ 1000000) :
    Calls Tryz.prog 132 #[.slice (some ⟨g, 0, none⟩) 2 2] w fun e w' => ∃ r, e = .returned r ∧ Ow w' w.heap.size w'.heap.size r (xs ++ ys) ∧ Below w.heap.size w w' := by
  obtain ⟨A1, k1, e1, -⟩ := id h1
  obtain ⟨A2, k2, e2, -⟩ := id h2
  have hlt : g < w.heap.size := block_lt_of_cell c1
  have E3 := Lib.hid (show ((xs.length : Int) + ys.length) = ((xs.length + ys.length : Nat) : Int) by omega)
  subst e1 e2
  go_enter Tryz.func132, Tryz.ntmps132
  go_wp2_with fail
  refine wp_loop_rounds 3 ?_
  rw [rounds_succ]
  go_wp2_with fail
  rw [rounds_succ]
  go_wp2_with fail
  rw [rounds_succ]
  go_wp2_with fail
  rw [E3.out]
  refine (growNil_any _ _ (by omega)).mono ?_
  rintro e w1 ⟨r, rfl, hO, hb⟩
  have q1 : w1.cell? ⟨g, 0, none⟩ = some (.slice A1 xs.length k1) := by rw [hb.cell (by simp only; exact hlt)]; exact c1
  have q2 : w1.cell? ⟨g, 1, none⟩ = some (.slice A2 ys.length k2) := by rw [hb.cell (by simp only; exact hlt)]; exact c2
  have s1 := h1.below hb hB
  have s2 := h2.below hb hB
  clear h1 h2
  go_wp2_with fail
  refine wp_loop_rounds 3 ?_
  rw [rounds_succ]
  go_wp2_with (at_builtin; refine wpList_append_list rfl _ _ rfl _ _ _ _ _ _ _ _ rfl rfl hO s1 hb.size (by simp; omega) ?_; intro v1 w2 hO2 hg2 hr2)
  have hb2 := hO.grown hg2 (Nat.le_refl _) hb.size
  have q3 : w2.cell? ⟨g, 1, none⟩ = some (.slice A2 ys.length k2) := by rw [hb2.cell (by simp only; exact hlt)]; exact q2
  have s3 := s2.below hb2 hB
  rw [rounds_succ]
  go_wp2_with (at_builtin; refine wpList_append_list rfl _ _ rfl _ _ _ _ _ _ _ _ rfl rfl hO2 s3 (Nat.le_trans hb.size hb2.size) (by simp; omega) ?_; intro v3 w3 hO3 hg3 hr3)
  have hb3 := hO2.grown hg3 (Nat.le_refl _) (Nat.le_trans hb.size hb2.size)
  rw [rounds_succ]
  go_wp2_with fail
  go_ret
  exact ⟨_, rfl, hO3, (hb.trans hb2).trans hb3⟩
end Go.Proofs.YtgmppfhokfifgaaGreatDoor
