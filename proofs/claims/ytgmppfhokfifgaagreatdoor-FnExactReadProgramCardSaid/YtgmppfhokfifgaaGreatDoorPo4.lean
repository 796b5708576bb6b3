/-
  Rows of structures among the things that a call has made (rt_), for the walks of the laws; the laws' helpers on operations in the form that these want.
-/
import Derived.Test.YtgmppfhokfifgaaGreatDoorPo3
import Derived.Test.YtgmppfhokfifgaaGreatDoorSt
namespace Go.Proofs.YtgmppfhokfifgaaGreatDoor
set_option maxRecDepth 10000
open Go.RowKit

def rt_ (s : Nat) (e : TypeId) (v : Value) (os : List (List Int)) : Itm :=
  ⟨fun w S => (w.ownsRow 0 e s v os.length (vals os.flatten) ∧ ∀ g, v.ownBlock = some g → S g) ∧ ∀ o ∈ os, o.length = s, by
    intro w w' S ⟨⟨⟨h1, h2⟩, h3⟩, h4⟩ hk
    refine ⟨⟨⟨h1, ?_⟩, h3⟩, h4⟩
    rcases h2 with h2 | ⟨g, cap, cur, rfl, hlo, hh, r⟩
    · exact .inl h2
    · exact .inr ⟨g, cap, cur, rfl, hlo, by rw [hk g (h3 g rfl)]; exact hh, r⟩⟩
theorem rt_of_owt {s : Nat} {e : TypeId} {w : World} {lo hi : Nat} {v : Value} {os : List (List Int)} (h : OwT s e w lo hi v os) : (rt_ s e v os).p w (fun k => lo ≤ k ∧ k < hi) := by
  obtain ⟨⟨⟨h1, h2⟩, h3⟩, h4⟩ := h
  refine ⟨⟨⟨h1, ?_⟩, fun g hg => ⟨?_, h3 g hg⟩⟩, h4⟩
  · rcases h2 with h2 | ⟨g, cap, cur, rfl, hlo, r⟩
    · exact .inl h2
    · exact .inr ⟨g, cap, cur, rfl, Nat.zero_le _, r⟩
  · rcases h2 with ⟨rfl, h0⟩ | ⟨g', cap, cur, rfl, hlo, r⟩
    · simp [Value.ownBlock] at hg
    · simp [Value.ownBlock] at hg; omega
theorem owt_of_rt {s : Nat} {e : TypeId} {w : World} {S : Nat → Prop} {v : Value} {os : List (List Int)} (h : (rt_ s e v os).p w S) : ∃ lo hi, OwT s e w lo hi v os ∧ (hi = 0 ∨ lo < hi) ∧ (∀ k, lo ≤ k → k < hi → S k) := by
  obtain ⟨⟨⟨h1, h2⟩, h3⟩, h4⟩ := h
  rcases h2 with ⟨rfl, h0⟩ | ⟨g, cap, cur, rfl, hlo, r⟩
  · refine ⟨0, 0, ⟨⟨⟨h1, .inl ⟨rfl, h0⟩⟩, by simp [Value.ownBlock]⟩, h4⟩, .inl rfl, fun k _ hk => absurd hk (Nat.not_lt_zero _)⟩
  · refine ⟨g, g + 1, ⟨⟨⟨h1, .inr ⟨g, cap, cur, rfl, Nat.le_refl _, r⟩⟩, fun g' hg' => by simp [Value.ownBlock] at hg'; omega⟩, h4⟩, by omega, fun k hk hk2 => ?_⟩
    obtain rfl : k = g := by omega
    exact h3 k rfl
theorem hs_owt {s : Nat} {e : TypeId} {w w' : World} {v : Value} {os : List (List Int)} (h : OwT s e w' w.heap.size w'.heap.size v os) (hb : Below w.heap.size w w') : Hs w' w.heap.size [rt_ s e v os] :=
  Hs.one hb.size (rt_of_owt h) fun _ hk => hk
theorem Hs.rdT {s : Nat} {e : TypeId} {w : World} {lo : Nat} (L1 : List Itm) {v : Value} {os : List (List Int)} (L2 : List Itm) (h : Hs w lo (L1 ++ rt_ s e v os :: L2)) : SlR s w w.heap.size v os := by
  obtain ⟨S, hp, c, _⟩ := h.at_ L1 (rt_ s e v os) L2
  obtain ⟨a, b, ho, hab, hS⟩ := owt_of_rt hp
  rcases hab with h1 | h1
  · exact ho.sl (by omega)
  · exact ho.sl (by have := c (b - 1) (hS _ (by omega) (by omega)); omega)
theorem Hs.owtAt {s : Nat} {e : TypeId} {w : World} {lo : Nat} (L1 : List Itm) (v : Value) (os : List (List Int)) (L2 : List Itm) (h : Hs w lo (L1 ++ rt_ s e v os :: L2)) :
    ∃ a b, OwT s e w a b v os ∧ b ≤ w.heap.size ∧ ∀ (os' : List (List Int)) (w' : World), OwT s e w' a b v os' → Chg a b w w' → Hs w' lo (L1 ++ rt_ s e v os' :: L2) ∧ Below lo w w' := by
  obtain ⟨S, hp, c, hput⟩ := h.at_ L1 (rt_ s e v os) L2
  obtain ⟨a, b, ho, hab, hS⟩ := owt_of_rt hp
  refine ⟨a, b, ho, (by rcases hab with h1 | h1; (omega); (have := c (b - 1) (hS _ (by omega) (by omega)); omega)), fun os' w' ho' hc => ?_⟩
  have hcs : ChgS S w w' := (ChgS.of_chg hc).mono fun k hk => hS k hk.1 hk.2
  refine ⟨hput (rt_ s e v os') w' ?_ hcs, hcs.below (fun k hk => (c k hk).1) h.1⟩
  have h1 := rt_of_owt ho'
  exact ⟨⟨h1.1.1, fun g hg => hS g (h1.1.2 g hg).1 (h1.1.2 g hg).2⟩, h1.2⟩
theorem heldOps_b {v : Value} {n : Nat} {B : Nat} {c : Int} {w : World} (h : SlR 8 w B v (markO c n)) (hsz : n ≤ 1048576) (hc0 : 0 ≤ c) (hc1 : c ≤ 1000000000) :
    Calls Tryz.prog 9 #[v, .int .i64 c] w fun e w' => e = .returned (.int .i64 (c + 8 * n)) ∧ Below w.heap.size w w' :=
  (heldOps_any h hsz hc0 hc1).mono fun _ _ ⟨he, hw⟩ => ⟨he, by rw [← hw]; exact Below.refl _ _⟩
end Go.Proofs.YtgmppfhokfifgaaGreatDoor
