/-
  append of a whole slice of structures, and of carriers, to an empty row of the call's own.
-/
import Derived.Test.YtgmppfhokfifgaaGma
import Derived.Test.YtgmppfhokfifgaaMst
import Derived.Test.YtgmppfhokfifgaaGmm
namespace Go.Proofs.Ytgmppfhokfifgaa
set_option maxRecDepth 10000
open Go.RowKit

theorem op_append_cells {t e : TypeId} {size bytes : Nat} {z : Value} (ht : Try.prog.underlying t = some (.slice e)) (hinfo : (Try.prog.info? e).map (fun i => (i.zero, i.size, i.bytes)) = some (some z, size, bytes)) (hz : z.cells.size = size) (hs0 : 0 < size) (hby : bytes ≤ 100)
    {o : Oper} {a : Act} {K : Act → World → Prop} {Q : Exit → Act → World → Prop} (s x : Operand)
    (ho : o.op = .call { callee := .builtin .append, args := #[s, x], argTypes := #[t, t] })
    (w : World) (lo hi : Nat) (A : Option Addr) (n2 cap2 : Nat) (v : Value) (n : Nat) (us news : List Value) (hs : a.eval s = v) (hx : a.eval x = .slice A n2 cap2) (hA : A = none → n2 = 0 ∧ cap2 = 0) (hcell : ∀ ad, A = some ad → ∀ j u, news[j]? = some u → w.cell? (ad.add j) = some u)
    (hown : OwR e size w lo hi v n us) (hlo : lo ≤ w.heap.size) (hlen : n + n2 ≤ 1000000000) (hnl : news.length = n2 * size) (h1 : ∀ u ∈ news, u.oneCell' = true)
    (h : ∀ v' w', OwR e size w' lo w'.heap.size v' (n + n2) (us ++ news) → w.grownBy w' v.ownBlock → (v'.ownBlock = v.ownBlock ∨ ∀ g, v'.ownBlock = some g → w.heap.size ≤ g) → K (a.put o.dst v') w') :
    Oper.wp Try.prog o a w K Q := by
  obtain ⟨i0, hi0, hz0, hz1, hz2⟩ := info_parts hinfo
  cases A with
  | none =>
    obtain ⟨rfl, rfl⟩ := hA rfl
    obtain rfl : news = [] := List.eq_nil_of_length_eq_zero (by omega)
    have hr := run_append_owned_none (P := Try.prog) w lo t o.type e i0 size ht hi0 v n us hown.1
    unfold Oper.wp execOp
    simp only [ho, resolve, invoke, builtin, Sem.run_bind, Sem.run_pure, Result.andThen_ok, List.map_toArray, List.map_cons, List.map_nil, hs, hx, hr]
    exact h v w (by rw [List.append_nil]; exact ⟨hown.1, fun g hg => (hown.1.lt g hg).2⟩) (World.grownBy.refl _ _) (.inl rfl)
  | some ad =>
    obtain ⟨v', w', hr, h2, h3, h4⟩ := run_append_own_at (P := Try.prog) w lo t o.type e i0 z size bytes ht hi0 hz0 hz1 hz2 hz hs0 v n us hown.1
      ad n2 cap2 news (by omega) (hcell ad rfl) h1 (by simp only [maxLen]; omega) (by have := Nat.mul_le_mul (show n + n2 ≤ 1000000001 by omega) hby; omega) (by omega)
    unfold Oper.wp execOp
    simp only [ho, resolve, invoke, builtin, Sem.run_bind, Sem.run_pure, Result.andThen_ok, List.map_toArray, List.map_cons, List.map_nil, hs, hx, hr]
    refine h v' w' (OwR.of_own h2) h3 ?_
    rcases h4.2 with h4 | h4
    · exact .inl h4
    · exact .inr fun g hg => by rw [h4] at hg; injection hg with hg; omega
def clv : Cl → Value
  | .p x => x
  | .s _ => .slice none 0 0
def carV (C : List (Bool × Int)) : List Value := (carC C).map clv
theorem carV_len (C : List (Bool × Int)) : (carV C).length = C.length * 2 := by unfold carV; rw [List.length_map, carC_len]
theorem carC_p (C : List (Bool × Int)) : ∀ c ∈ carC C, ∃ x, c = .p x ∧ x.oneCell' = true := by
  intro c hc
  unfold carC at hc
  rw [List.mem_flatten] at hc
  obtain ⟨l, hl, hcl⟩ := hc
  obtain ⟨a, -, rfl⟩ := List.mem_map.1 hl
  simp only [carC1, List.mem_cons, List.not_mem_nil, or_false] at hcl
  rcases hcl with rfl | rfl
  · exact ⟨_, rfl, rfl⟩
  · exact ⟨_, rfl, rfl⟩
theorem carV_one (C : List (Bool × Int)) : ∀ u ∈ carV C, u.oneCell' = true := by
  intro u hu
  obtain ⟨c, hc, rfl⟩ := List.mem_map.1 hu
  obtain ⟨x, rfl, hx⟩ := carC_p C c hc
  exact hx
theorem SlK.carVals {w : World} {B : Nat} {A : Option Addr} {n cap : Nat} {C : List (Bool × Int)} (h : SlK w B (.slice A n cap) C) : n = C.length ∧ (A = none → n = 0 ∧ cap = 0) ∧ ∀ ad, A = some ad → ∀ j u, (carV C)[j]? = some u → w.cell? (ad.add j) = some u := by
  obtain ⟨A', c', e, hl, hm, ⟨h4, hn⟩, h5⟩ := h
  injection e with e1 e2 e3
  subst e1 e2 e3
  refine ⟨rfl, fun q => ⟨by have := hn q; omega, hn q⟩, fun ad had j u hu => ?_⟩
  have hj : j < (carV C).length := (List.getElem?_eq_some_iff.1 hu).1
  rw [carV_len] at hj
  obtain ⟨b, off, e, -, hc⟩ := h5 (by omega)
  rw [had] at e
  injection e with e
  subst e
  unfold carV at hu
  rw [List.getElem?_map] at hu
  obtain ⟨c, hcj, rfl⟩ := Option.map_eq_some_iff.1 hu
  obtain ⟨u2, q1, q2⟩ := hc j c hcj
  obtain ⟨x, rfl, -⟩ := carC_p C c (List.mem_of_getElem? hcj)
  rw [Addr.add_lit, q1]
  exact congrArg some q2
end Go.Proofs.Ytgmppfhokfifgaa
