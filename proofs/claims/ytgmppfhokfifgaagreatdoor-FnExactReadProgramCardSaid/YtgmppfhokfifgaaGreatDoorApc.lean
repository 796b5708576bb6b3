/-
  append of a whole slice to a row of the call's own.
-/
import Derived.Test.YtgmppfhokfifgaaGreatDoorOwr
namespace Go.Proofs.YtgmppfhokfifgaaGreatDoor
set_option maxRecDepth 10000
open Go.RowKit

theorem op_append_row {t e : TypeId} {size bytes : Nat} {z : Value} (ht : Tryz.prog.underlying t = some (.slice e)) (hinfo : (Tryz.prog.info? e).map (fun i => (i.zero, i.size, i.bytes)) = some (some z, size, bytes)) (hz : z.cells.size = size) (hs0 : 0 < size) (hby : bytes ≤ 100)
    {o : Oper} {a : Act} {K : Act → World → Prop} {Q : Exit → Act → World → Prop} (s x : Operand)
    (ho : o.op = .call { callee := .builtin .append, args := #[s, x], argTypes := #[t, t] })
    (w : World) (lo hi : Nat) (A : Option Addr) (n2 cap2 : Nat) (v : Value) (n : Nat) (us news : List Value) (hs : a.eval s = v) (hx : a.eval x = .slice A n2 cap2) (hA : A = none → n2 = 0 ∧ cap2 = 0) (hcell : ∀ ad, A = some ad → ∀ j u, news[j]? = some u → w.cell? (ad.add j) = some u)
    (hown : OwR e size w lo hi v n us) (hlo : lo ≤ w.heap.size) (hlen : n + n2 ≤ 1000000000) (hnl : news.length = n2 * size) (h1 : ∀ u ∈ news, u.oneCell' = true)
    (h : ∀ v' w', OwR e size w' lo w'.heap.size v' (n + n2) (us ++ news) → w.grownBy w' v.ownBlock → (v'.ownBlock = v.ownBlock ∨ ∀ g, v'.ownBlock = some g → w.heap.size ≤ g) → K (a.put o.dst v') w') :
    Oper.wp Tryz.prog o a w K Q := by
  obtain ⟨i0, hi0, hz0, hz1, hz2⟩ := info_parts hinfo
  cases A with
  | none =>
    obtain ⟨rfl, rfl⟩ := hA rfl
    obtain rfl : news = [] := List.eq_nil_of_length_eq_zero (by omega)
    have hr := run_append_owned_none (P := Tryz.prog) w lo t o.type e i0 size ht hi0 v n us hown.1
    unfold Oper.wp execOp
    simp only [ho, resolve, invoke, builtin, Sem.run_bind, Sem.run_pure, Result.andThen_ok, List.map_toArray, List.map_cons, List.map_nil, hs, hx, hr]
    exact h v w (by rw [List.append_nil]; exact ⟨hown.1, fun g hg => (hown.1.lt g hg).2⟩) (World.grownBy.refl _ _) (.inl rfl)
  | some ad =>
    obtain ⟨v', w', hr, h2, h3, h4⟩ := run_append_own_at (P := Tryz.prog) w lo t o.type e i0 z size bytes ht hi0 hz0 hz1 hz2 hz hs0 v n us hown.1
      ad n2 cap2 news (by omega) (hcell ad rfl) h1 (by simp only [maxLen]; omega) (by have := Nat.mul_le_mul (show n + n2 ≤ 1000000001 by omega) hby; omega) (by omega)
    unfold Oper.wp execOp
    simp only [ho, resolve, invoke, builtin, Sem.run_bind, Sem.run_pure, Result.andThen_ok, List.map_toArray, List.map_cons, List.map_nil, hs, hx, hr]
    refine h v' w' (OwR.of_own h2) h3 ?_
    rcases h4.2 with h4 | h4
    · exact .inl h4
    · exact .inr fun g hg => by rw [h4] at hg; injection hg with hg; omega
theorem wpList_append_rowT {t e : TypeId} {size bytes : Nat} {z : Value} (ht : Tryz.prog.underlying t = some (.slice e)) (hinfo : (Tryz.prog.info? e).map (fun i => (i.zero, i.size, i.bytes)) = some (some z, size, bytes)) (hz : z.cells.size = size) (hs0 : 0 < size) (hby : bytes ≤ 100)
    {ops : Array Oper} {rest : List Oper} {o : Oper} {a : Act} {Q : Exit → Act → World → Prop} (hgd : o.guard = none) (s x : Operand)
    (ho : o.op = .call { callee := .builtin .append, args := #[s, x], argTypes := #[t, t] })
    (w : World) (lo hi : Nat) (A : Option Addr) (n2 cap2 : Nat) (v : Value) (n : Nat) (us news : List Value) (hs : a.eval s = v) (hx : a.eval x = .slice A n2 cap2) (hA : A = none → n2 = 0 ∧ cap2 = 0) (hcell : ∀ ad, A = some ad → ∀ j u, news[j]? = some u → w.cell? (ad.add j) = some u)
    (hown : OwR e size w lo hi v n us) (hlo : lo ≤ w.heap.size) (hlen : n + n2 ≤ 1000000000) (hnl : news.length = n2 * size) (h1 : ∀ u ∈ news, u.oneCell' = true)
    (h : ∀ v' w', OwR e size w' lo w'.heap.size v' (n + n2) (us ++ news) → w.grownBy w' v.ownBlock → (v'.ownBlock = v.ownBlock ∨ ∀ g, v'.ownBlock = some g → w.heap.size ≤ g) → wpList Tryz.prog ops Q rest (a.put o.dst v') w') :
    wpList Tryz.prog ops Q (o :: rest) a w :=
  wpList_plain hgd fun _ hK => op_append_row ht hinfo hz hs0 hby s x ho w lo hi A n2 cap2 v n us news hs hx hA hcell hown hlo hlen hnl h1 fun v' w' h2 h3 h4 => hK _ _ (h v' w' h2 h3 h4)
end Go.Proofs.YtgmppfhokfifgaaGreatDoor
