/-
  Copies of slices of operations (append of a whole slice, slices.Clone); needles moved and mirrored (the reference's l08Moved, l08Mirror).
-/
import Derived.Test.YtgmppfhokfifgaaPo3
import Derived.Test.YtgmppfhokfifgaaSt
import Derived.Test.YtgmppfhokfifgaaPrg
import Derived.Lib.AppendZeros
namespace Go.Proofs.Ytgmppfhokfifgaa
set_option maxRecDepth 10000
open Go.RowKit

theorem OwT.of_own {s : Nat} {e : TypeId} {w : World} {lo : Nat} {v : Value} {n : Nat} {us : List Value} {os : List (List Int)} (h : w.ownsRow lo e s v n us) (hn : n = os.length) (hu : us = vals os.flatten) (h8 : ∀ o ∈ os, o.length = s) : OwT s e w lo w.heap.size v os := by
  subst hn hu
  exact ⟨⟨h, fun g hg => (h.lt g hg).2⟩, h8⟩
/-- append of a whole slice of operations to a row of the call's own. -/
theorem wpList_append_ops {ops : Array Oper} {rest : List Oper} {o : Oper} {a : Act} {Q : Exit → Act → World → Prop} (hgd : o.guard = none) (s x : Operand)
    (ho : o.op = .call { callee := .builtin .append, args := #[s, x], argTypes := #[24, 24] })
    (w : World) (lo hi B : Nat) (v u : Value) (xs ys : List (List Int)) (hs : a.eval s = v) (hx : a.eval x = u)
    (hown : OwT 8 54 w lo hi v xs) (hu : SlR 8 w B u ys) (hlo : lo ≤ w.heap.size) (hlen : xs.length + ys.length ≤ 10000000)
    (h : ∀ v' w', OwT 8 54 w' lo w'.heap.size v' (xs ++ ys) → w.grownBy w' v.ownBlock → wpList Try.prog ops Q rest (a.put o.dst v') w') :
    wpList Try.prog ops Q (o :: rest) a w := by
  obtain ⟨i0, hi0, hz0, hz1, hz2⟩ := info_parts op_info
  obtain ⟨A, c, rfl, hl, hm, ⟨h8, hn⟩, hcell⟩ := hu
  have hal : ∀ q ∈ xs ++ ys, q.length = 8 := fun q hq => by
    rcases List.mem_append.1 hq with hq | hq
    · exact hown.2 q hq
    · exact h8 q hq
  refine wpList_plain hgd fun K hK => ?_
  cases A with
  | none =>
    obtain rfl := hn rfl
    obtain rfl : ys = [] := List.eq_nil_of_length_eq_zero (by omega)
    have hr := run_append_owned_none (P := Try.prog) w lo 24 o.type 54 i0 8 Try.underlying24 hi0 v xs.length (vals xs.flatten) hown.1.1
    unfold Oper.wp execOp
    simp only [ho, resolve, invoke, builtin, Sem.run_bind, Sem.run_pure, Result.andThen_ok, List.map_toArray, List.map_cons, List.map_nil, hs, hx, List.length_nil, hr]
    refine hK _ _ (h v w (by rw [List.append_nil]; exact ⟨⟨hown.1.1, fun g hg => (hown.1.1.lt g hg).2⟩, hown.2⟩) (World.grownBy.refl _ _))
  | some ad =>
    have hfl := flat_len h8
    have hc : ∀ j u, (vals ys.flatten)[j]? = some u → w.cell? (ad.add j) = some u := by
      intro j u hu
      have hj : j < ys.flatten.length := by have := (List.getElem?_eq_some_iff.1 hu).1; rwa [vals_len] at this
      obtain ⟨b, off, e, _, hcc⟩ := hcell (by rw [hfl] at hj; omega)
      injection e with e
      subst e
      have hk : j / 8 < ys.length := by rw [hfl] at hj; omega
      have hq := hcc (j / 8) hk (j % 8) (Nat.mod_lt _ (by omega))
      have e2 := flat_gi h8 hk (Nat.mod_lt j (show 0 < 8 by omega))
      rw [show j / 8 * 8 + j % 8 = j by omega] at e2
      rw [vals_get hj] at hu
      injection hu with hu
      rw [Addr.add_lit, ← hu, e2, ← hq, show off + j = off + j / 8 * 8 + j % 8 by omega]
    obtain ⟨v', w', hr, h2, h3, h4⟩ := run_append_own_at (P := Try.prog) w lo 24 o.type 54 i0 _ 8 64 Try.underlying24 hi0 hz0 hz1 hz2 rfl (by decide) v xs.length (vals xs.flatten) hown.1.1
      ad ys.length c (vals ys.flatten) (by rw [vals_len, hfl]) hc (vals_one ys.flatten) (by simp only [maxLen]; omega) (by omega) hlo
    unfold Oper.wp execOp
    simp only [ho, resolve, invoke, builtin, Sem.run_bind, Sem.run_pure, Result.andThen_ok, List.map_toArray, List.map_cons, List.map_nil, hs, hx, hr]
    exact hK _ _ (h v' w' (OwT.of_own h2 (by simp) (by rw [List.flatten_append, vals_append]) hal) h3)
theorem OwT.empty_ (s : Nat) (e : TypeId) (w : World) : OwT s e (w.alloc (.cells #[] e)) w.heap.size (w.alloc (.cells #[] e)).heap.size (.slice (some ⟨w.heap.size, 0, none⟩) 0 0) [] := ⟨OwR.empty e s w, by simp⟩
def mirN (w b a : Int) : Int := if b = 0 then a else w - 1 - a
def mapO (f : Int → Int → Int) (o : List Int) : List Int := [gi o 0, gi o 1, gi o 2, f (gi o 2) (gi o 3), gi o 4, f (gi o 4) (gi o 5), gi o 6, gi o 7]
def mirO (w : Int) (o : List Int) : List Int := [gi o 0, -gi o 1, gi o 2, mirN w (gi o 2) (gi o 3), gi o 4, mirN w (gi o 4) (gi o 5), gi o 6, -gi o 7]
set_option maxHeartbeats 800000 in
theorem cloneOps_any (v : Value) (os : List (List Int)) (B : Nat) (w : World) (h : SlR 8 w B v os) (hB : B ≤ w.heap.size) (hsz : os.length ≤ 1000000) :
    Calls Try.prog 32 #[v] w fun e w' => ∃ r, e = .returned r ∧ OwT 8 54 w' w.heap.size w'.heap.size r os ∧ Below w.heap.size w w' := by
  obtain ⟨A, c, e1, hl, hm, ⟨h8, hn⟩, _⟩ := id h
  cases A with
  | none =>
    have h0 := hn rfl
    subst h0
    obtain rfl : os = [] := List.eq_nil_of_length_eq_zero (by omega)
    subst e1
    have hq := fun W => Lib.run_eql_slice_nil (P := Try.prog) W 24 54 none 0 0 0 0 Try.underlying24
    go_enter Try.func32, Try.ntmps32
    go_wp2
    go_ret
    exact ⟨_, rfl, OwT.nil _ _ _ _ _, Below.refl _ _⟩
  | some ad =>
    subst e1
    have hq := fun W => Lib.run_eql_slice_nil (P := Try.prog) W 24 54 (some ad) os.length c 0 0 Try.underlying24
    have h1 := h.below (al1 w (.cells #[] 54)) hB
    have hO := OwT.empty_ 8 54 w
    go_enter Try.func32, Try.ntmps32
    go_wp2_with (at_builtin; refine wpList_append_ops rfl _ _ rfl _ _ _ _ _ _ _ _ rfl rfl hO h1 (by simp) (by simp; omega) ?_; intro v1 w1 hO1 hg1)
    have hbw := hO.1.grown hg1 (Nat.le_refl _) (by simp)
    go_ret
    exact ⟨_, rfl, hO1, (al1 _ _).trans hbw⟩
end Go.Proofs.Ytgmppfhokfifgaa
