/-
  Rows of any element type that the call itself has made (OwR), bytes among them; a string out of bytes.
-/
import Derived.Test.YtgmppfhokfifgaaGreatDoorBase
namespace Go.Proofs.YtgmppfhokfifgaaGreatDoor
set_option maxRecDepth 10000
open Go.RowKit

/-- A row of n elements of type e (size cells each) that the call itself has made: its cells read us; its block lies from lo on and below hi. -/
def OwR (e : TypeId) (size : Nat) (w : World) (lo hi : Nat) (v : Value) (n : Nat) (us : List Value) : Prop :=
  w.ownsRow lo e size v n us ∧ ∀ g, v.ownBlock = some g → g < hi
section
variable {e : TypeId} {size : Nat} {w w' : World} {lo hi : Nat} {v : Value} {n : Nat} {us : List Value}
theorem OwR.keep (h : OwR e size w lo hi v n us) (hk : ∀ k, lo ≤ k → k < hi → w'.heap[k]? = w.heap[k]?) : OwR e size w' lo hi v n us := by
  obtain ⟨⟨h1, h2⟩, hi'⟩ := h
  refine ⟨⟨h1, ?_⟩, hi'⟩
  rcases h2 with h2 | ⟨g, cap, cur, rfl, hlo, hh, r⟩
  · exact .inl h2
  · exact .inr ⟨g, cap, cur, rfl, hlo, by rw [hk g hlo (hi' g rfl)]; exact hh, r⟩
theorem OwR.mono {lo' hi' : Nat} (h : OwR e size w lo hi v n us) (h1 : lo' ≤ lo) (h2 : hi ≤ hi') : OwR e size w lo' hi' v n us := by
  obtain ⟨⟨a, b⟩, c⟩ := h
  refine ⟨⟨a, ?_⟩, fun g hg => by have := c g hg; omega⟩
  rcases b with b | ⟨g, cap, cur, rfl, hlo, r⟩
  · exact .inl b
  · exact .inr ⟨g, cap, cur, rfl, by omega, r⟩
theorem OwR.below {B : Nat} (h : OwR e size w lo hi v n us) (hb : Below B w w') (hB : hi ≤ B) : OwR e size w' lo hi v n us := h.keep fun k _ hk => hb.block k (by omega)
theorem OwR.al (h : OwR e size w lo hi v n us) (hs : hi ≤ w.heap.size) (o : Obj) : OwR e size (w.alloc o) lo hi v n us := h.keep fun k _ hk => Below.heap_alloc _ _ _ (by omega)
theorem OwR.dr (h : OwR e size w lo hi v n us) (m : Nat) : OwR e size (w.drewN m) lo hi v n us := h
theorem OwR.of_own (h : w.ownsRow lo e size v n us) : OwR e size w lo w.heap.size v n us := ⟨h, fun g hg => (h.lt g hg).2⟩
theorem OwR.empty (e : TypeId) (size : Nat) (w : World) : OwR e size (w.alloc (.cells #[] e)) w.heap.size (w.alloc (.cells #[] e)).heap.size (.slice (some ⟨w.heap.size, 0, none⟩) 0 0) 0 [] :=
  OwR.of_own (World.ownsRow_made w #[] 0 (Nat.le_refl _) (by simp [maxLen]) (by simp))
theorem OwR.nil (e : TypeId) (size : Nat) (w : World) (lo hi : Nat) : OwR e size w lo hi (.slice none 0 0) 0 [] := ⟨World.ownsRow_nil w lo _ _, by simp [Value.ownBlock]⟩
theorem OwR.form (h : OwR e size w lo hi v n us) :
    (v = .slice none 0 0 ∧ n = 0 ∧ us = []) ∨ ∃ g cap, v = .slice (some ⟨g, 0, none⟩) n cap ∧ lo ≤ g ∧ g < hi ∧ n ≤ cap ∧ cap ≤ 9223372036854775807 ∧ us.length = n * size ∧
      ∀ (k : Nat) (u : Value), us[k]? = some u → w.cell? ⟨g, k, none⟩ = some u := by
  obtain ⟨h1, hi'⟩ := h
  have hl := h1.1
  rcases h1.2 with ⟨rfl, h0⟩ | ⟨g, cap, cur, rfl, hlo, hh, hn, hcap, hsz, htake⟩
  · subst h0
    exact .inl ⟨rfl, rfl, List.eq_nil_of_length_eq_zero (by simpa using hl)⟩
  · simp only [maxLen] at hcap
    exact .inr ⟨g, cap, rfl, hlo, hi' g rfl, hn, by omega, hl, fun k u hu => by rw [h1.cellAt k (by have := (List.getElem?_eq_some_iff.1 hu).1; omega), hu]⟩
theorem OwR.grown (h : OwR e size w lo hi v n us) (hg : w.grownBy w' v.ownBlock) {B : Nat} (hB : B ≤ lo) (hs : B ≤ w.heap.size) : Below B w w' :=
  ⟨hg.os, hg.tape, hg.output, hg.size, fun k hk => hg.block k (by omega) fun e => by have := (h.1.lt k e.symm).1; omega⟩
end

/-- append of one element (size cells, each one cell) to a row of the call's own; the element lies in a block of its own. -/
theorem wpList_append_elem {t e : TypeId} {size bytes : Nat} {z : Value} (ht : Tryz.prog.underlying t = some (.slice e)) (hinfo : (Tryz.prog.info? e).map (fun i => (i.zero, i.size, i.bytes)) = some (some z, size, bytes)) (hz : z.cells.size = size) (hs0 : 0 < size) (hby : bytes ≤ 100)
    {ops : Array Oper} {rest : List Oper} {o : Oper} {a : Act} {Q : Exit → Act → World → Prop} (hgd : o.guard = none) (s x : Operand)
    (ho : o.op = .call { callee := .builtin .append, args := #[s, x], argTypes := #[t, t] })
    (w : World) (lo hi : Nat) (v : Value) (n : Nat) (us news : List Value) (hs : a.eval s = v) (hx : a.eval x = .slice (some ⟨w.heap.size, 0, none⟩) 1 1)
    (hown : OwR e size w lo hi v n us) (hlo : lo ≤ w.heap.size) (hlen : n ≤ 1000000000) (hnl : news.length = size) (h1 : ∀ u ∈ news, u.oneCell' = true)
    (h : ∀ v' w', OwR e size w' lo w'.heap.size v' (n + 1) (us ++ news) → w.grownBy w' v.ownBlock → (v'.ownBlock = v.ownBlock ∨ ∀ g, v'.ownBlock = some g → w.heap.size ≤ g) → wpList Tryz.prog ops Q rest (a.put o.dst v') w') :
    wpList Tryz.prog ops Q (o :: rest) a (w.alloc (.cells news.toArray e)) := by
  obtain ⟨i0, hi0, hz0, hz1, hz2⟩ := info_parts hinfo
  refine wpList_plain hgd fun K hK => ?_
  have hcell : ∀ j u, news[j]? = some u → (w.alloc (.cells news.toArray e)).cell? ((⟨w.heap.size, 0, none⟩ : Addr).add j) = some u := by
    intro j u hu
    rw [Addr.add_lit]
    simpa using hu
  have hown' := hown.1.alloc (.cells news.toArray e)
  have hg0 : w.grownBy (w.alloc (.cells news.toArray e)) v.ownBlock := World.grownBy_alloc w _ _
  have hsz : (w.alloc (.cells news.toArray e)).heap.size = w.heap.size + 1 := World.size_alloc _ _
  obtain ⟨v', w', hr, h2, h3, h4⟩ := run_append_own_at (P := Tryz.prog) (w.alloc (.cells news.toArray e)) lo t o.type e i0 z size bytes ht hi0 hz0 hz1 hz2 hz hs0 v n us hown'
    ⟨w.heap.size, 0, none⟩ 1 1 news (by omega) hcell h1 (by simp only [maxLen]; omega) (by have := Nat.mul_le_mul (show n + 1 ≤ 1000000001 by omega) hby; omega) (by omega)
  unfold Oper.wp execOp
  simp only [ho, resolve, invoke, builtin, Sem.run_bind, Sem.run_pure, Result.andThen_ok, List.map_toArray, List.map_cons, List.map_nil, hs, hx, hr]
  have hgr : w.grownBy w' v.ownBlock := ⟨h3.os, h3.tape, h3.output, by have := h3.size; omega, fun k hk hne => (h3.block k (by omega) hne).trans (hg0.block k hk hne)⟩
  refine hK _ _ (h v' w' (OwR.of_own h2) hgr ?_)
  rcases h4.2 with h4 | h4
  · exact .inl h4
  · exact .inr fun g hg => by rw [h4] at hg; injection hg with hg; omega

/-! ### Bytes and strings -/
end Go.Proofs.YtgmppfhokfifgaaGreatDoor
