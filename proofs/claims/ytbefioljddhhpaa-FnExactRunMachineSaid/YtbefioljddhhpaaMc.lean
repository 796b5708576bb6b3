/-
  Rows in memory whose cells are plain values or rows of int64 (OwC, SlC, the item rc_): for descriptions of loops and for carriers.
-/
import Derived.Test.YtbefioljddhhpaaSs2
namespace Go.Proofs.Ytbefioljddhhpaa
set_option maxRecDepth 10000
open Go.RowKit

/-- A cell of a row: a plain value, or a row of int64. -/
inductive Cl where
  | p (x : Value)
  | s (xs : List Int)
def ClR (w : World) (B : Nat) : Cl → Value → Prop
  | .p x, u => u = x
  | .s xs, u => Sl w B u xs
def ClO (w : World) (S : Nat → Prop) : Cl → Value → Prop
  | .p x, u => u = x
  | .s xs, u => (rw_ u xs).p w S
theorem ClO.keep {w w' : World} {S : Nat → Prop} {c : Cl} {u : Value} (h : ClO w S c u) (hk : ∀ k, S k → w'.heap[k]? = w.heap[k]?) : ClO w' S c u := by
  cases c with
  | p x => exact h
  | s xs => exact (rw_ u xs).keep h hk
theorem ClO.iff {w : World} {S S' : Nat → Prop} {c : Cl} {u : Value} (h : ClO w S c u) (hk : ∀ k, S k → S' k) : ClO w S' c u := by
  cases c with
  | p x => exact h
  | s xs => exact ⟨h.1, fun g hg => hk g (h.2 g hg)⟩
theorem ClR.keep {w w' : World} {B : Nat} {c : Cl} {u : Value} (h : ClR w B c u) (hk : ∀ p : Addr, p.block < B → w'.cell? p = w.cell? p) : ClR w' B c u := by
  cases c with
  | p x => exact h
  | s xs => exact Sl.keep h hk
theorem ClR.mono {w : World} {B B' : Nat} {c : Cl} {u : Value} (h : ClR w B c u) (hB : B ≤ B') : ClR w B' c u := by
  cases c with
  | p x => exact h
  | s xs => exact Sl.mono h hB
/-- The slice value v reads as n elements of z cells each; all blocks lie below B. -/
def SlC (z : Nat) (w : World) (B : Nat) (v : Value) (n : Nat) (cs : List Cl) : Prop :=
  ∃ A c, v = .slice A n c ∧ n ≤ c ∧ c ≤ maxLen ∧ (cs.length = n * z ∧ (A = none → c = 0)) ∧
    (0 < n → ∃ b off, A = some ⟨b, off, none⟩ ∧ b < B ∧ ∀ k c, cs[k]? = some c → ∃ u, w.cell? ⟨b, off + k, none⟩ = some u ∧ ClR w B c u)
theorem SlC.keep {z : Nat} {w w' : World} {B : Nat} {v : Value} {n : Nat} {cs : List Cl} (h : SlC z w B v n cs) (hk : ∀ p : Addr, p.block < B → w'.cell? p = w.cell? p) : SlC z w' B v n cs := by
  obtain ⟨A, c, h1, h2, h3, h4, h5⟩ := h
  refine ⟨A, c, h1, h2, h3, h4, fun hp => ?_⟩
  obtain ⟨b, off, e, hb, hc⟩ := h5 hp
  refine ⟨b, off, e, hb, fun k x hx => ?_⟩
  obtain ⟨u, hu, hs⟩ := hc k x hx
  exact ⟨u, by rw [hk _ hb]; exact hu, hs.keep hk⟩
theorem SlC.below {z : Nat} {w w' : World} {B B' : Nat} {v : Value} {n : Nat} {cs : List Cl} (h : SlC z w B v n cs) (hb : Below B' w w') (hB : B ≤ B') : SlC z w' B v n cs := h.keep fun _ hp => hb.cell (by omega)
theorem SlC.mono {z : Nat} {w : World} {B B' : Nat} {v : Value} {n : Nat} {cs : List Cl} (h : SlC z w B v n cs) (hB : B ≤ B') : SlC z w B' v n cs := by
  obtain ⟨A, c, h1, h2, h3, h4, h5⟩ := h
  refine ⟨A, c, h1, h2, h3, h4, fun hp => ?_⟩
  obtain ⟨b, off, e, hb, hc⟩ := h5 hp
  refine ⟨b, off, e, by omega, fun k x hx => ?_⟩
  obtain ⟨u, hu, hs⟩ := hc k x hx
  exact ⟨u, hu, hs.mono hB⟩
theorem SlC.drewN {z : Nat} {w : World} {B : Nat} {v : Value} {n : Nat} {cs : List Cl} (h : SlC z w B v n cs) (m : Nat) : SlC z (w.drewN m) B v n cs := h
theorem SlC.nil (z : Nat) (w : World) (B : Nat) : SlC z w B (.slice none 0 0) 0 [] := ⟨none, 0, rfl, Nat.le_refl _, by simp [maxLen], ⟨by simp, fun _ => rfl⟩, fun h => absurd h (by simp)⟩
/-- Such a row of the call's own; the blocks of its rows lie in S, each apart from the others. -/
def OwC (e : TypeId) (z : Nat) (w : World) (S : Nat → Prop) (v : Value) (n : Nat) (cs : List Cl) : Prop :=
  ∃ (vs : List Value) (tag : Nat → Nat), w.ownsRow 0 e z v n vs ∧ (∀ g, v.ownBlock = some g → S g ∧ tag g = 0) ∧ (vs.length = cs.length ∧ cs.length = n * z) ∧
    ∀ k u c, vs[k]? = some u → cs[k]? = some c → ClO w (fun b => S b ∧ tag b = k + 1) c u
theorem OwC.keep {e : TypeId} {z : Nat} {w w' : World} {S : Nat → Prop} {v : Value} {n : Nat} {cs : List Cl} (h : OwC e z w S v n cs) (hk : ∀ k, S k → w'.heap[k]? = w.heap[k]?) : OwC e z w' S v n cs := by
  obtain ⟨vs, tag, h1, h2, h3, h4⟩ := h
  exact ⟨vs, tag, ownsRow_keep h1 fun g hg => hk g (h2 g hg).1, h2, h3, fun k u c hu hc => (h4 k u c hu hc).keep fun b hb => hk b hb.1⟩
theorem OwC.mono {e : TypeId} {z : Nat} {w : World} {S S' : Nat → Prop} {v : Value} {n : Nat} {cs : List Cl} (h : OwC e z w S v n cs) (hs : ∀ k, S k → S' k) : OwC e z w S' v n cs := by
  obtain ⟨vs, tag, h1, h2, h3, h4⟩ := h
  exact ⟨vs, tag, h1, fun g hg => ⟨hs g (h2 g hg).1, (h2 g hg).2⟩, h3, fun k u c hu hc => (h4 k u c hu hc).iff fun b hb => ⟨hs b hb.1, hb.2⟩⟩
def rc_ (e : TypeId) (z : Nat) (v : Value) (n : Nat) (cs : List Cl) : Itm := ⟨fun w S => OwC e z w S v n cs, fun h hk => h.keep hk⟩
theorem OwC.below {e : TypeId} {z : Nat} {w w' : World} {B lo hi : Nat} {v : Value} {n : Nat} {cs : List Cl} (h : OwC e z w (Iv lo hi) v n cs) (hb : Below B w w') (hB : hi ≤ B) : OwC e z w' (Iv lo hi) v n cs :=
  h.keep fun k hk => hb.block k (by have := hk.2; omega)
theorem OwC.sl {e : TypeId} {z : Nat} {w : World} {S : Nat → Prop} {B : Nat} {v : Value} {n : Nat} {cs : List Cl} (h : OwC e z w S v n cs) (hB : ∀ b, S b → b < B) : SlC z w B v n cs := by
  obtain ⟨vs, tag, h1, h2, ⟨h3, h3'⟩, h4⟩ := h
  have h1' := h1
  rcases h1.2 with ⟨rfl, h0⟩ | ⟨g, cap, cur, rfl, hlo, hh, hn, hcap, hsz, htake⟩
  · subst h0
    rw [show cs = [] from List.eq_nil_of_length_eq_zero (by omega)]
    exact SlC.nil z w B
  · refine ⟨_, cap, rfl, hn, hcap, ⟨h3', by simp⟩, fun hp => ⟨g, 0, rfl, hB g (h2 g rfl).1, fun k c hc => ?_⟩⟩
    have hk : k < cs.length := (List.getElem?_eq_some_iff.1 hc).1
    obtain ⟨u, hu⟩ : ∃ u, vs[k]? = some u := ⟨vs[k], List.getElem?_eq_getElem (by omega)⟩
    refine ⟨u, ?_, ?_⟩
    · rw [Nat.zero_add, h1'.cellAt k (by omega), hu]
    · have h5 := h4 k u c hu hc
      cases c with
      | p x => exact h5
      | s xs =>
        obtain ⟨a, b, ho, hab, hS⟩ := ow_of_rw h5
        rcases hab with h6 | h6
        · exact ho.sl (by omega)
        · exact ho.sl (by have := hB _ (hS (b - 1) (by omega) (by omega)).1; omega)
theorem OwC.nil (e : TypeId) (z : Nat) (w : World) (S : Nat → Prop) : OwC e z w S (.slice none 0 0) 0 [] := ⟨[], fun _ => 0, World.ownsRow_nil w 0 _ z, by simp [Value.ownBlock], by simp, fun k u c h => by simp at h⟩
theorem hs_owc {e : TypeId} {z : Nat} {w w' : World} {v : Value} {n : Nat} {cs : List Cl} (h : OwC e z w' (Iv w.heap.size w'.heap.size) v n cs) (hb : Below w.heap.size w w') : Hs w' w.heap.size [rc_ e z v n cs] :=
  Hs.one (t := rc_ e z v n cs) hb.size h fun _ hk => hk
theorem Hs.rdC {e : TypeId} {z : Nat} {w : World} {lo : Nat} (L1 : List Itm) {v : Value} {n : Nat} {cs : List Cl} (L2 : List Itm) (h : Hs w lo (L1 ++ rc_ e z v n cs :: L2)) : SlC z w w.heap.size v n cs := by
  obtain ⟨S, hp, c, _⟩ := h.at_ L1 (rc_ e z v n cs) L2
  exact OwC.sl hp fun b hb => (c b hb).2
/-- The shape of such a row, and a cell. -/
theorem OwC.shape {e : TypeId} {z : Nat} {w : World} {S : Nat → Prop} {v : Value} {n : Nat} {cs : List Cl} (h : OwC e z w S v n cs) {k : Nat} {c : Cl} (hc : cs[k]? = some c) :
    ∃ g cap u, v = .slice (some ⟨g, 0, none⟩) n cap ∧ S g ∧ w.cell? ⟨g, k, none⟩ = some u ∧ w.frozen? ⟨g, k, none⟩ = false ∧ (∀ x, c = .p x → u = x) := by
  obtain ⟨vs, tag, h1, h2, ⟨h3, h3'⟩, h4⟩ := h
  have hk : k < cs.length := (List.getElem?_eq_some_iff.1 hc).1
  have h1' := h1
  rcases h1.2 with ⟨rfl, h0⟩ | ⟨g, cap, cur, rfl, hlo, hh, hn, hcap, hsz, htake⟩
  · subst h0; omega
  · obtain ⟨u, hu⟩ : ∃ u, vs[k]? = some u := ⟨vs[k], List.getElem?_eq_getElem (by omega)⟩
    refine ⟨g, cap, u, rfl, (h2 g rfl).1, by rw [h1'.cellAt k (by omega), hu], h1'.frozenAt k, fun x hx => ?_⟩
    have := h4 k u c hu hc
    rw [hx] at this
    exact this
/-- A plain store into a plain cell. -/
theorem OwC.setP {e : TypeId} {z : Nat} {w : World} {S : Nat → Prop} {g n cap : Nat} {cs : List Cl} (h : OwC e z w S (.slice (some ⟨g, 0, none⟩) n cap) n cs) {k : Nat} (hk : k < cs.length) (x : Value) :
    OwC e z (w.setCell ⟨g, k, none⟩ x) S (.slice (some ⟨g, 0, none⟩) n cap) n (cs.set k (.p x)) ∧ ChgS S w (w.setCell ⟨g, k, none⟩ x) := by
  obtain ⟨vs, tag, h1, h2, ⟨h3, h3'⟩, h4⟩ := h
  have hg := h2 g rfl
  have hs := h1.stored k x
  refine ⟨⟨vs.set k x, tag, hs.1, h2, ⟨by simp [h3], by simpa using h3'⟩, fun j u c hu hc => ?_⟩, rfl, rfl, rfl, by simp [World.setCell], fun j _ hj2 => Below.heap_setCell _ _ _ _ fun e => hj2 (by rw [e]; exact hg.1)⟩
  by_cases hjk : j = k
  · subst hjk
    rw [List.getElem?_set_self (by omega)] at hu hc
    injection hu with hu
    injection hc with hc
    subst hu hc
    rfl
  · rw [List.getElem?_set_ne (by omega)] at hu hc
    refine (h4 j u c hu hc).keep fun b hb => Below.heap_setCell _ _ _ _ fun e => ?_
    simp only at e
    have := hb.2
    rw [e] at this
    have := hg.2
    omega
/-- One of the rows inside; another may be put into its place. -/
theorem OwC.at_ {e : TypeId} {z : Nat} {w : World} {S : Nat → Prop} {v : Value} {n : Nat} {cs : List Cl} (h : OwC e z w S v n cs) (k : Nat) (xs : List Int) (hk : cs[k]? = some (.s xs)) (hS : ∀ b, S b → b < w.heap.size) :
    ∃ g cap u a b, v = .slice (some ⟨g, 0, none⟩) n cap ∧ w.cell? ⟨g, k, none⟩ = some u ∧ Ow w a b u xs ∧ b ≤ w.heap.size ∧ (∀ j, a ≤ j → j < b → S j) ∧
      ∀ (ys : List Int) (w' : World), Ow w' a b u ys → Chg a b w w' → OwC e z w' S v n (cs.set k (.s ys)) := by
  obtain ⟨vs, tag, h1, h2, ⟨h3, h3'⟩, h4⟩ := h
  have hkl : k < cs.length := (List.getElem?_eq_some_iff.1 hk).1
  have h1' := h1
  rcases h1.2 with ⟨rfl, h0⟩ | ⟨g, cap, cur, rfl, hlo, hh, hn, hcap, hsz, htake⟩
  · subst h0; omega
  · obtain ⟨u, hu⟩ : ∃ u, vs[k]? = some u := ⟨vs[k], List.getElem?_eq_getElem (by omega)⟩
    obtain ⟨a, b, ho, hab, hSj⟩ := ow_of_rw (show (rw_ u xs).p w _ from h4 k u _ hu hk)
    have hb : b ≤ w.heap.size := by
      rcases hab with h5 | h5
      · omega
      · have := hS _ (hSj (b - 1) (by omega) (by omega)).1; omega
    refine ⟨g, cap, u, a, b, rfl, by rw [h1'.cellAt k (by omega), hu], ho, hb, fun j h5 h6 => (hSj j h5 h6).1, fun ys w' ho' hc => ?_⟩
    have hg := h2 g rfl
    have hgo : ¬ (a ≤ g ∧ g < b) := fun hc => by have := (hSj g hc.1 hc.2).2; omega
    refine ⟨vs, tag, ?_, h2, ⟨by simp [h3], by simpa using h3'⟩, fun j x c hx hc' => ?_⟩
    · exact ownsRow_keep h1' fun g' hg' => by simp [Value.ownBlock] at hg'; subst hg'; exact hc.block g (hS g hg.1) (by omega)
    · by_cases hjk : j = k
      · subst hjk
        rw [hu] at hx
        injection hx with hx
        subst hx
        rw [List.getElem?_set_self hkl] at hc'
        injection hc' with hc'
        subst hc'
        have h5 := rw_of_ow ho'
        exact ⟨h5.1, fun g' hg' => hSj g' (h5.2 g' hg').1 (h5.2 g' hg').2⟩
      · rw [List.getElem?_set_ne (by omega)] at hc'
        have h5 := h4 j x c hx hc'
        refine h5.keep fun b' hb' => hc.block b' (hS b' hb'.1) ?_
        by_cases h6 : a ≤ b' ∧ b' < b
        · have h7 := (hSj b' h6.1 h6.2).2
          have := hb'.2
          omega
        · omega
/-- A row is stored into a cell. -/
theorem OwC.setS {e : TypeId} {z : Nat} {w : World} {lo hi : Nat} {v u : Value} {n : Nat} {cs : List Cl} {xs : List Int} (h : OwC e z w (Iv lo hi) v n cs) (k : Nat) (hk : k < cs.length) (hu : Ow w hi w.heap.size u xs) (hhi : hi ≤ w.heap.size) :
    ∃ g cap x, v = .slice (some ⟨g, 0, none⟩) n cap ∧ lo ≤ g ∧ g < hi ∧ w.cell? ⟨g, k, none⟩ = some x ∧ w.frozen? ⟨g, k, none⟩ = false ∧
      OwC e z (w.setCell ⟨g, k, none⟩ u) (Iv lo (w.setCell ⟨g, k, none⟩ u).heap.size) v n (cs.set k (.s xs)) ∧ Chg lo hi w (w.setCell ⟨g, k, none⟩ u) := by
  obtain ⟨vs, tag, h1, h2, ⟨h3, h3'⟩, h4⟩ := h
  have h1' := h1
  rcases h1.2 with ⟨rfl, h0⟩ | ⟨g, cap, cur, rfl, hlo, hh, hn, hcap, hsz, htake⟩
  · subst h0; omega
  · obtain ⟨x, hx⟩ : ∃ x, vs[k]? = some x := ⟨vs[k], List.getElem?_eq_getElem (by omega)⟩
    have hg := h2 g rfl
    have hs := h1'.stored k u
    refine ⟨g, cap, x, rfl, hg.1.1, hg.1.2, by rw [h1'.cellAt k (by omega), hx], h1'.frozenAt k, ?_, ⟨rfl, rfl, rfl, by simp [World.setCell], fun j _ hj2 => Below.heap_setCell _ _ _ _ (by have := hg.1.1; have := hg.1.2; simp only; omega)⟩⟩
    have hsz : (w.setCell ⟨g, k, none⟩ u).heap.size = w.heap.size := by simp [World.setCell]
    refine ⟨vs.set k u, fun b => if hi ≤ b then k + 1 else if tag b = k + 1 then 0 else tag b, hs.1, fun g' hg' => ?_, ⟨by simp [h3], by simpa using h3'⟩, fun j y c hy hc => ?_⟩
    · simp [Value.ownBlock] at hg'
      subst hg'
      refine ⟨⟨hg.1.1, by rw [hsz]; have := hg.1.2; omega⟩, ?_⟩
      simp only
      rw [if_neg (by have := hg.1.2; omega), if_neg (by have := hg.2; omega)]
      exact hg.2
    · by_cases hjk : j = k
      · subst hjk
        rw [List.getElem?_set_self (by omega)] at hy hc
        injection hy with hy
        injection hc with hc
        subst hy hc
        have h5 := rw_of_ow hu
        refine ⟨ownsRow_keep h5.1 fun g' hg' => Below.heap_setCell _ _ _ _ (by have := (h5.2 g' hg').1; have := hg.1.2; simp only; omega), fun g' hg' => ?_⟩
        have h6 := h5.2 g' hg'
        refine ⟨⟨by have := hg.1.1; have := hg.1.2; omega, by rw [hsz]; exact h6.2⟩, ?_⟩
        simp only
        rw [if_pos h6.1]
      · rw [List.getElem?_set_ne (by omega)] at hy hc
        have h5 := h4 j y c hy hc
        refine (h5.keep fun b hb => Below.heap_setCell _ _ _ _ fun e => ?_).iff fun b hb => ?_
        · simp only at e
          have := hb.2
          rw [e] at this
          have := hg.2
          omega
        · refine ⟨⟨hb.1.1, by rw [hsz]; have := hb.1.2; omega⟩, ?_⟩
          simp only
          rw [if_neg (by have := hb.1.2; omega), if_neg (by have := hb.2; omega)]
          exact hb.2
/-- From a row whose cells are plain. -/
theorem OwC.plain {e : TypeId} {z : Nat} {w : World} {lo : Nat} {S : Nat → Prop} {v : Value} {n : Nat} {xs : List Value} (h : w.ownsRow lo e z v n xs) (hl : xs.length = n * z) (hs : ∀ g, v.ownBlock = some g → S g) : OwC e z w S v n (xs.map Cl.p) := by
  refine ⟨xs, fun _ => 0, ?_, fun g hg => ⟨hs g hg, rfl⟩, ⟨by simp, by simpa using hl⟩, fun k u c hu hc => ?_⟩
  · obtain ⟨h1, h2⟩ := h
    refine ⟨h1, ?_⟩
    rcases h2 with h2 | ⟨g, cap, cur, e, hlo, r⟩
    · exact .inl h2
    · exact .inr ⟨g, cap, cur, e, Nat.zero_le _, r⟩
  · rw [List.getElem?_map, hu] at hc
    simp at hc
    subst hc
    rfl
/-- A plain nil slice is an empty row. -/
theorem OwC.nilS {e : TypeId} {z : Nat} {w : World} {S : Nat → Prop} {v : Value} {n : Nat} {cs : List Cl} (h : OwC e z w S v n cs) (cs' : List Cl) (hl : cs'.length = cs.length) (hc : ∀ (k : Nat) (c : Cl), cs'[k]? = some c → cs[k]? = some c ∨ (cs[k]? = some (Cl.p (.slice none 0 0)) ∧ c = Cl.s [])) : OwC e z w S v n cs' := by
  obtain ⟨vs, tag, h1, h2, ⟨h3, h3'⟩, h4⟩ := h
  refine ⟨vs, tag, h1, h2, ⟨by omega, by omega⟩, fun k u c hu hc' => ?_⟩
  rcases hc k c hc' with h5 | ⟨h5, rfl⟩
  · exact h4 k u c hu h5
  · have := h4 k u _ hu h5
    simp only [ClO] at this
    subst this
    exact rw_nil _ _
end Go.Proofs.Ytbefioljddhhpaa
