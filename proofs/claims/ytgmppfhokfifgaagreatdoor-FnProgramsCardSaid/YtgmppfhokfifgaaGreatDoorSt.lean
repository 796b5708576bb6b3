/-
  What a call has made so far: a list of things, each in blocks of its own, in no order (Hs). A thing (Itm) is a predicate on the world and on the set of its blocks, kept while these blocks stay.
-/
import Derived.Test.YtgmppfhokfifgaaGreatDoorBase
namespace Go.Proofs.YtgmppfhokfifgaaGreatDoor
set_option maxRecDepth 10000
open Go.RowKit

structure Itm where
  p : World → (Nat → Prop) → Prop
  keep : ∀ {w w' : World} {S : Nat → Prop}, p w S → (∀ k, S k → w'.heap[k]? = w.heap[k]?) → p w' S
/-- A row of int64. -/
def rw_ (v : Value) (xs : List Int) : Itm :=
  ⟨fun w S => w.ownsRow 0 2 1 v xs.length (vals xs) ∧ ∀ g, v.ownBlock = some g → S g, by
    intro w w' S ⟨⟨h1, h2⟩, h3⟩ hk
    refine ⟨⟨h1, ?_⟩, h3⟩
    rcases h2 with h2 | ⟨g, cap, cur, rfl, hlo, hh, r⟩
    · exact .inl h2
    · exact .inr ⟨g, cap, cur, rfl, hlo, by rw [hk g (h3 g rfl)]; exact hh, r⟩⟩
/-- A struct in a block of its own. -/
def bx_ (g : Nat) (cs : Array Value) (t : TypeId) : Itm := ⟨fun w S => S g ∧ w.heap[g]? = some (.cells cs t), fun ⟨a, h⟩ hk => ⟨a, by rw [hk _ a]; exact h⟩⟩
/-- What a call may change: the blocks of S, and new ones. -/
structure ChgS (S : Nat → Prop) (w w' : World) : Prop where
  os : w'.os = w.os
  tape : w'.tape = w.tape
  output : w'.output = w.output
  size : w.heap.size ≤ w'.heap.size
  block : ∀ k, k < w.heap.size → ¬ S k → w'.heap[k]? = w.heap[k]?
theorem ChgS.below {S : Nat → Prop} {B : Nat} {w w' : World} (h : ChgS S w w') (hB : ∀ k, S k → B ≤ k) (hs : B ≤ w.heap.size) : Below B w w' :=
  ⟨h.os, h.tape, h.output, h.size, fun k hk => h.block k (by omega) fun hS => by have := hB k hS; omega⟩
theorem ChgS.refl (S : Nat → Prop) (w : World) : ChgS S w w := ⟨rfl, rfl, rfl, Nat.le_refl _, fun _ _ _ => rfl⟩
theorem ChgS.trans {S : Nat → Prop} {a b c : World} (h : ChgS S a b) (k : ChgS S b c) : ChgS S a c :=
  ⟨k.os.trans h.os, k.tape.trans h.tape, k.output.trans h.output, Nat.le_trans h.size k.size, fun i hi hn => (k.block i (Nat.lt_of_lt_of_le hi h.size) hn).trans (h.block i hi hn)⟩
theorem ChgS.of_below {S : Nat → Prop} {w w' : World} (h : Below w.heap.size w w') : ChgS S w w' := ⟨h.os, h.tape, h.output, h.size, fun k hk _ => h.block k hk⟩
theorem ChgS.mono {S S' : Nat → Prop} {w w' : World} (h : ChgS S w w') (hs : ∀ k, S k → S' k) : ChgS S' w w' := ⟨h.os, h.tape, h.output, h.size, fun k hk hn => h.block k hk fun hS => hn (hs k hS)⟩

def Hs (w : World) (lo : Nat) (L : List Itm) : Prop :=
  lo ≤ w.heap.size ∧ ∃ own : Nat → Nat, ∀ k t, L[k]? = some t → t.p w (fun b => own b = k) ∧ ∀ b, own b = k → lo ≤ b ∧ b < w.heap.size
theorem Itm.iff {t : Itm} {w : World} {S S' : Nat → Prop} (h : t.p w S) (hs : ∀ b, S b ↔ S' b) : t.p w S' := by
  have : S = S' := funext fun b => propext (hs b)
  rw [← this]; exact h
theorem Hs.nil (w : World) : Hs w w.heap.size [] := ⟨Nat.le_refl _, fun _ => 0, fun k t h => by simp at h⟩
theorem Hs.size {w : World} {lo : Nat} {L : List Itm} (h : Hs w lo L) : lo ≤ w.heap.size := h.1
theorem Hs.mono {w : World} {lo lo' : Nat} {L : List Itm} (h : Hs w lo L) (hl : lo' ≤ lo) : Hs w lo' L := by
  obtain ⟨h0, own, h1⟩ := h
  exact ⟨by omega, own, fun k t e => ⟨(h1 k t e).1, fun b hb => by have := (h1 k t e).2 b hb; omega⟩⟩
theorem Hs.below {w w' : World} {lo : Nat} {L : List Itm} (h : Hs w lo L) (hb : Below w.heap.size w w') : Hs w' lo L := by
  obtain ⟨h0, own, h1⟩ := h
  refine ⟨Nat.le_trans h0 hb.size, own, fun k t e => ?_⟩
  obtain ⟨a, b⟩ := h1 k t e
  exact ⟨t.keep a fun j hj => hb.block j (b j hj).2, fun j hj => ⟨(b j hj).1, Nat.lt_of_lt_of_le (b j hj).2 hb.size⟩⟩
theorem Hs.join {w w' : World} {lo : Nat} {L L' : List Itm} (h : Hs w lo L) (hb : Below w.heap.size w w') (h' : Hs w' w.heap.size L') : Hs w' lo (L ++ L') := by
  obtain ⟨h0, own, h1⟩ := h
  obtain ⟨h0', own', h1'⟩ := h'
  refine ⟨Nat.le_trans h0 hb.size, fun b => if b < w.heap.size then (if own b < L.length then own b else L.length + L'.length) else L.length + own' b, fun k t e => ?_⟩
  by_cases hk : k < L.length
  · rw [List.getElem?_append_left hk] at e
    obtain ⟨a, c⟩ := h1 k t e
    have hs : ∀ b, own b = k ↔ (if b < w.heap.size then (if own b < L.length then own b else L.length + L'.length) else L.length + own' b) = k := by
      intro b
      constructor
      · intro hb'
        have := c b hb'
        rw [if_pos this.2, if_pos (by omega)]; exact hb'
      · intro hb'
        split at hb'
        · split at hb' <;> omega
        · omega
    exact ⟨Itm.iff (t.keep a fun j hj => hb.block j (c j hj).2) hs, fun b hb' => by have := c b ((hs b).2 hb'); have := hb.size; omega⟩
  · rw [List.getElem?_append_right (by omega)] at e
    obtain ⟨a, c⟩ := h1' (k - L.length) t e
    have hkl : k - L.length < L'.length := (List.getElem?_eq_some_iff.1 e).1
    have hs : ∀ b, own' b = k - L.length ↔ (if b < w.heap.size then (if own b < L.length then own b else L.length + L'.length) else L.length + own' b) = k := by
      intro b
      constructor
      · intro hb'
        have := c b hb'
        rw [if_neg (by omega)]; omega
      · intro hb'
        split at hb'
        · split at hb' <;> omega
        · omega
    exact ⟨Itm.iff a hs, fun b hb' => by have := c b ((hs b).2 hb'); omega⟩
/-- One of the things, and another put into its place. -/
theorem Hs.at_ {w : World} {lo : Nat} (L1 : List Itm) (t : Itm) (L2 : List Itm) (h : Hs w lo (L1 ++ t :: L2)) :
    ∃ S : Nat → Prop, t.p w S ∧ (∀ k, S k → lo ≤ k ∧ k < w.heap.size) ∧ ∀ (t' : Itm) (w' : World), t'.p w' S → ChgS S w w' → Hs w' lo (L1 ++ t' :: L2) := by
  obtain ⟨h0, own, h1⟩ := h
  have e : (L1 ++ t :: L2)[L1.length]? = some t := by simp
  obtain ⟨a, c⟩ := h1 _ _ e
  refine ⟨_, a, c, fun t' w' ht hc => ⟨Nat.le_trans h0 hc.size, own, fun k u eu => ?_⟩⟩
  by_cases hk : k = L1.length
  · subst hk
    simp at eu
    subst eu
    exact ⟨ht, fun b hb => ⟨(c b hb).1, Nat.lt_of_lt_of_le (c b hb).2 hc.size⟩⟩
  · have eu' : (L1 ++ t :: L2)[k]? = some u := by
      rw [← eu]
      by_cases hk2 : k < L1.length
      · rw [List.getElem?_append_left hk2, List.getElem?_append_left hk2]
      · rw [List.getElem?_append_right (by omega), List.getElem?_append_right (by omega)]
        obtain ⟨j, hj⟩ : ∃ j, k - L1.length = j + 1 := ⟨k - L1.length - 1, by omega⟩
        rw [hj]; rfl
    obtain ⟨a', c'⟩ := h1 k u eu'
    exact ⟨u.keep a' fun j hj => hc.block j (c' j hj).2 (fun hj2 : own j = L1.length => hk (by rw [← hj]; exact hj2)), fun b hb => ⟨(c' b hb).1, Nat.lt_of_lt_of_le (c' b hb).2 hc.size⟩⟩
/-- A thing is forgotten. -/
theorem Hs.drop {w : World} {lo : Nat} (L1 : List Itm) (t : Itm) (L2 : List Itm) (h : Hs w lo (L1 ++ t :: L2)) : Hs w lo (L1 ++ L2) := by
  obtain ⟨h0, own, h1⟩ := h
  refine ⟨h0, fun b => if own b < L1.length then own b else if own b = L1.length then L1.length + L2.length else own b - 1, fun k u e => ?_⟩
  by_cases hk : k < L1.length
  · rw [List.getElem?_append_left hk] at e
    obtain ⟨a, c⟩ := h1 k u (by rw [List.getElem?_append_left hk]; exact e)
    have hs : ∀ b, own b = k ↔ (if own b < L1.length then own b else if own b = L1.length then L1.length + L2.length else own b - 1) = k := by
      intro b
      constructor
      · intro hb; rw [if_pos (by omega)]; exact hb
      · intro hb
        split at hb
        · exact hb
        · split at hb <;> omega
    exact ⟨Itm.iff a hs, fun b hb => c b ((hs b).2 hb)⟩
  · rw [List.getElem?_append_right (by omega)] at e
    have hkl : k - L1.length < L2.length := (List.getElem?_eq_some_iff.1 e).1
    obtain ⟨a, c⟩ := h1 (k + 1) u (by rw [List.getElem?_append_right (by omega), show k + 1 - L1.length = (k - L1.length) + 1 by omega]; exact e)
    have hs : ∀ b, own b = k + 1 ↔ (if own b < L1.length then own b else if own b = L1.length then L1.length + L2.length else own b - 1) = k := by
      intro b
      constructor
      · intro hb; rw [if_neg (by omega), if_neg (by omega)]; omega
      · intro hb
        split at hb
        · omega
        · split at hb <;> omega
    exact ⟨Itm.iff a hs, fun b hb => c b ((hs b).2 hb)⟩
/-- A thing is put to the end. -/
theorem Hs.toEnd {w : World} {lo : Nat} (L1 : List Itm) (t : Itm) (L2 : List Itm) (h : Hs w lo (L1 ++ t :: L2)) : Hs w lo (L1 ++ L2 ++ [t]) := by
  obtain ⟨h0, own, h1⟩ := h
  refine ⟨h0, fun b => if own b < L1.length then own b else if own b = L1.length then L1.length + L2.length else if own b ≤ L1.length + L2.length then own b - 1 else own b, fun k u e => ?_⟩
  by_cases hk : k < L1.length
  · rw [List.append_assoc, List.getElem?_append_left hk] at e
    obtain ⟨a, c⟩ := h1 k u (by rw [List.getElem?_append_left hk]; exact e)
    have hs : ∀ b, own b = k ↔ (if own b < L1.length then own b else if own b = L1.length then L1.length + L2.length else if own b ≤ L1.length + L2.length then own b - 1 else own b) = k := by
      intro b
      constructor
      · intro hb; rw [if_pos (by omega)]; exact hb
      · intro hb
        split at hb
        · exact hb
        · split at hb
          · omega
          · split at hb <;> omega
    exact ⟨Itm.iff a hs, fun b hb => c b ((hs b).2 hb)⟩
  · by_cases hk2 : k < L1.length + L2.length
    · rw [List.append_assoc, List.getElem?_append_right (by omega), List.getElem?_append_left (by omega)] at e
      obtain ⟨a, c⟩ := h1 (k + 1) u (by rw [List.getElem?_append_right (by omega), show k + 1 - L1.length = (k - L1.length) + 1 by omega]; exact e)
      have hs : ∀ b, own b = k + 1 ↔ (if own b < L1.length then own b else if own b = L1.length then L1.length + L2.length else if own b ≤ L1.length + L2.length then own b - 1 else own b) = k := by
        intro b
        constructor
        · intro hb; rw [if_neg (by omega), if_neg (by omega), if_pos (by omega)]; omega
        · intro hb
          split at hb
          · omega
          · split at hb
            · omega
            · split at hb <;> omega
      exact ⟨Itm.iff a hs, fun b hb => c b ((hs b).2 hb)⟩
    · have hl : k < (L1 ++ L2 ++ [t]).length := (List.getElem?_eq_some_iff.1 e).1
      simp at hl
      obtain rfl : k = L1.length + L2.length := by omega
      rw [List.getElem?_append_right (by simp)] at e
      simp at e
      subst e
      obtain ⟨a, c⟩ := h1 L1.length t (by simp)
      have hs : ∀ b, own b = L1.length ↔ (if own b < L1.length then own b else if own b = L1.length then L1.length + L2.length else if own b ≤ L1.length + L2.length then own b - 1 else own b) = L1.length + L2.length := by
        intro b
        constructor
        · intro hb; rw [if_neg (by omega), if_pos hb]
        · intro hb
          split at hb
          · omega
          · split at hb
            · assumption
            · split at hb <;> omega
      exact ⟨Itm.iff a hs, fun b hb => c b ((hs b).2 hb)⟩
theorem Hs.one {w w' : World} {t : Itm} {S : Nat → Prop} (hb : w.heap.size ≤ w'.heap.size) (h : t.p w' S) (hs : ∀ k, S k → w.heap.size ≤ k ∧ k < w'.heap.size) : Hs w' w.heap.size [t] := by
  classical
  refine ⟨hb, fun b => if S b then 0 else 1, fun k u e => ?_⟩
  obtain rfl : k = 0 := by
    have := (List.getElem?_eq_some_iff.1 e).1
    simp at this; exact this
  simp at e
  subst e
  have hi : ∀ b, S b ↔ (if S b then 0 else 1) = 0 := fun b => by by_cases h : S b <;> simp [h]
  exact ⟨Itm.iff h hi, fun b hb => hs b ((hi b).2 hb)⟩
theorem rw_of_ow {w : World} {lo hi : Nat} {v : Value} {xs : List Int} (h : Ow w lo hi v xs) : (rw_ v xs).p w (fun k => lo ≤ k ∧ k < hi) := by
  obtain ⟨⟨h1, h2⟩, h3⟩ := h
  refine ⟨⟨h1, ?_⟩, fun g hg => ⟨?_, h3 g hg⟩⟩
  · rcases h2 with h2 | ⟨g, cap, cur, rfl, hlo, r⟩
    · exact .inl h2
    · exact .inr ⟨g, cap, cur, rfl, Nat.zero_le _, r⟩
  · rcases h2 with ⟨rfl, h0⟩ | ⟨g', cap, cur, rfl, hlo, r⟩
    · simp [Value.ownBlock] at hg
    · simp [Value.ownBlock] at hg; omega
theorem ow_of_rw {w : World} {S : Nat → Prop} {v : Value} {xs : List Int} (h : (rw_ v xs).p w S) : ∃ lo hi, Ow w lo hi v xs ∧ (hi = 0 ∨ lo < hi) ∧ (∀ k, lo ≤ k → k < hi → S k) := by
  obtain ⟨⟨h1, h2⟩, h3⟩ := h
  rcases h2 with ⟨rfl, h0⟩ | ⟨g, cap, cur, rfl, hlo, r⟩
  · refine ⟨0, 0, ⟨⟨h1, .inl ⟨rfl, h0⟩⟩, by simp [Value.ownBlock]⟩, .inl rfl, fun k _ hk => absurd hk (Nat.not_lt_zero _)⟩
  · refine ⟨g, g + 1, ⟨⟨h1, .inr ⟨g, cap, cur, rfl, Nat.le_refl _, r⟩⟩, fun g' hg' => by simp [Value.ownBlock] at hg'; omega⟩, by omega, fun k hk hk2 => ?_⟩
    obtain rfl : k = g := by omega
    exact h3 k rfl
theorem hs_ow {w w' : World} {v : Value} {xs : List Int} (h : Ow w' w.heap.size w'.heap.size v xs) (hb : Below w.heap.size w w') : Hs w' w.heap.size [rw_ v xs] :=
  Hs.one hb.size (rw_of_ow h) fun _ hk => hk
theorem hs_bx (w : World) (cs : Array Value) (t : TypeId) : Hs (w.alloc (.cells cs t)) w.heap.size [bx_ w.heap.size cs t] :=
  Hs.one (S := fun k => k = w.heap.size) (by rw [World.size_alloc]; exact Nat.le_succ _) ⟨rfl, by unfold World.alloc; simp only []; rw [Array.getElem?_push_size]⟩ fun k hk => by rw [World.size_alloc]; omega
theorem Hs.bx {w : World} {lo : Nat} (L1 : List Itm) {g : Nat} {cs : Array Value} {t : TypeId} (L2 : List Itm) (h : Hs w lo (L1 ++ bx_ g cs t :: L2)) :
    (∀ k, w.cell? ⟨g, k, none⟩ = cs[k]?) ∧ (∀ k, w.frozen? ⟨g, k, none⟩ = false) ∧ g < w.heap.size ∧ lo ≤ g := by
  obtain ⟨S, ⟨a, b⟩, c, _⟩ := h.at_ L1 (bx_ g cs t) L2
  have := c g a
  exact ⟨fun k => cell_of_row w g k cs t (0, 0) b, fun k => by simp only [World.frozen?, b]; simp, this.2, this.1⟩
theorem Hs.rd {w : World} {lo : Nat} (L1 : List Itm) {v : Value} {xs : List Int} (L2 : List Itm) (h : Hs w lo (L1 ++ rw_ v xs :: L2)) : Sl w w.heap.size v xs := by
  obtain ⟨S, hp, c, _⟩ := h.at_ L1 (rw_ v xs) L2
  obtain ⟨a, b, ho, hab, hS⟩ := ow_of_rw hp
  rcases hab with h1 | h1
  · exact ho.sl (by omega)
  · exact ho.sl (by have := c (b - 1) (hS _ (by omega) (by omega)); omega)
theorem Hs.two {w w' : World} {t u : Itm} {S S' : Nat → Prop} (hb : w.heap.size ≤ w'.heap.size) (h : t.p w' S) (h2 : u.p w' S') (hs : ∀ k, S k → w.heap.size ≤ k ∧ k < w'.heap.size) (hs2 : ∀ k, S' k → w.heap.size ≤ k ∧ k < w'.heap.size) (hd : ∀ k, S k → ¬ S' k) : Hs w' w.heap.size [t, u] := by
  classical
  refine ⟨hb, fun b => if S b then 0 else if S' b then 1 else 2, fun k v e => ?_⟩
  match k, e with
  | 0, e =>
    simp at e
    subst e
    have hi : ∀ b, S b ↔ (if S b then 0 else if S' b then 1 else 2) = 0 := fun b => by
      by_cases h : S b
      · simp [h]
      · by_cases h' : S' b <;> simp [h, h']
    exact ⟨Itm.iff h hi, fun b hb => hs b ((hi b).2 hb)⟩
  | 1, e =>
    simp at e
    subst e
    have hi : ∀ b, S' b ↔ (if S b then 0 else if S' b then 1 else 2) = 1 := fun b => by
      by_cases h : S b
      · have := hd b h; simp [h, this]
      · by_cases h' : S' b <;> simp [h, h']
    exact ⟨Itm.iff h2 hi, fun b hb => hs2 b ((hi b).2 hb)⟩
  | k + 2, e => simp at e
theorem heap_setCell_at {w : World} {g k : Nat} {cs : Array Value} {t : TypeId} (x : Value) (hx : w.heap[g]? = some (.cells cs t)) : (w.setCell ⟨g, k, none⟩ x).heap[g]? = some (.cells (cs.setIfInBounds k x) t) := by
  have hg : g < w.heap.size := by rw [Array.getElem?_eq_some_iff] at hx; exact hx.1
  have hx' : w.heap[g] = .cells cs t := by rw [Array.getElem?_eq_getElem hg] at hx; exact Option.some.inj hx
  simp [World.setCell, Array.getElem?_modify, hx]
theorem Hs.setBx {w : World} {lo : Nat} (L1 : List Itm) {g : Nat} {cs : Array Value} {t : TypeId} (L2 : List Itm) (h : Hs w lo (L1 ++ bx_ g cs t :: L2)) (k : Nat) (x : Value) : Hs (w.setCell ⟨g, k, none⟩ x) lo (L1 ++ bx_ g (cs.setIfInBounds k x) t :: L2) := by
  obtain ⟨S, ⟨a, b⟩, c, hput⟩ := h.at_ L1 (bx_ g cs t) L2
  refine hput (bx_ g (cs.setIfInBounds k x) t) _ ⟨a, heap_setCell_at x b⟩ ⟨rfl, rfl, rfl, by simp [World.setCell], fun j _ hj2 => Below.heap_setCell _ _ _ _ fun e => hj2 (by rw [e]; exact a)⟩
theorem heap_lt {w : World} {g : Nat} {o : Obj} (h : w.heap[g]? = some o) : g < w.heap.size := (Array.getElem?_eq_some_iff.1 h).1
theorem alloc_at_ (w : World) (o : Obj) : (w.alloc o).heap[w.heap.size]? = some o := by unfold World.alloc; simp only []; rw [Array.getElem?_push_size]
theorem keep_fwd {w w' : World} {g : Nat} {o : Obj} (h : Below w.heap.size w w') (hx : w.heap[g]? = some o) : w'.heap[g]? = some o := (h.block _ (heap_lt hx)).trans hx
theorem alloc_fwd {w w' : World} {o : Obj} (h : Below (w.alloc o).heap.size (w.alloc o) w') : w'.heap[w.heap.size]? = some o := keep_fwd h (alloc_at_ w o)
theorem alloc_fwd_drew {w w' : World} {o : Obj} (h : Below (w.alloc o).drew.heap.size (w.alloc o).drew w') : w'.heap[w.heap.size]? = some o := keep_fwd h (alloc_at_ w o)
theorem alloc_fwd_drewN {w w' : World} {o : Obj} {n : Nat} (h : Below ((w.alloc o).drewN n).heap.size ((w.alloc o).drewN n) w') : w'.heap[w.heap.size]? = some o := keep_fwd h (alloc_at_ w o)
theorem box2 {w : World} {g : Nat} {a b : Value} {t : TypeId} (h : w.heap[g]? = some (.cells #[a, b] t)) :
    w.cell? ⟨g, 0, none⟩ = some a ∧ w.cell? ⟨g, 1, none⟩ = some b ∧ w.frozen? ⟨g, 0, none⟩ = false ∧ w.frozen? ⟨g, 1, none⟩ = false ∧ g < w.heap.size :=
  ⟨cell_of_row w g 0 _ t (0, 0) h, cell_of_row w g 1 _ t (0, 0) h, by simp only [World.frozen?, h]; simp, by simp only [World.frozen?, h]; simp, heap_lt h⟩
end Go.Proofs.YtgmppfhokfifgaaGreatDoor
