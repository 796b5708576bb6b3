/-
  Rows in memory whose cells are plain values or rows of int64 (OwC, SlC, the item rc_): for descriptions of loops and for carriers.
-/
import Derived.Test.YtbefioljddhhpaaGreatSs2
import Derived.Lib.QuietBelow
namespace Go.Proofs.YtbefioljddhhpaaGreat
set_option maxRecDepth 10000
open Go.RowKit

/-- A cell of a row: a plain value, or a row of int64. -/
inductive Cl where
  | p (x : Value)
  | s (xs : List Int)
def ClR (w : World) (B : Nat) : Cl → Value → Prop
  | .p x, u => u = x
  | .s xs, u => Sl w B u xs
def ClO (w : World) (S : Nat → Prop) : Cl → Value → Prop
  | .p x, u => u = x
  | .s xs, u => (rw_ u xs).p w S
theorem ClO.keep {w w' : World} {S : Nat → Prop} {c : Cl} {u : Value} (h : ClO w S c u) (hk : ∀ k, S k → w'.heap[k]? = w.heap[k]?) : ClO w' S c u := by
  cases c with
  | p x => exact h
  | s xs => exact (rw_ u xs).keep h hk
theorem ClO.iff {w : World} {S S' : Nat → Prop} {c : Cl} {u : Value} (h : ClO w S c u) (hk : ∀ k, S k → S' k) : ClO w S' c u := by
  cases c with
  | p x => exact h
  | s xs => exact ⟨h.1, fun g hg => hk g (h.2 g hg)⟩
theorem ClR.keep {w w' : World} {B : Nat} {c : Cl} {u : Value} (h : ClR w B c u) (hk : ∀ p : Addr, p.block < B → w'.cell? p = w.cell? p) : ClR w' B c u := by
  cases c with
  | p x => exact h
  | s xs => exact Sl.keep h hk
theorem ClR.mono {w : World} {B B' : Nat} {c : Cl} {u : Value} (h : ClR w B c u) (hB : B ≤ B') : ClR w B' c u := by
  cases c with
  | p x => exact h
  | s xs => exact Sl.mono h hB
/-- The slice value v reads as n elements of z cells each; all blocks lie below B. -/
def SlC (z : Nat) (w : World) (B : Nat) (v : Value) (n : Nat) (cs : List Cl) : Prop :=
  ∃ A c, v = .slice A n c ∧ n ≤ c ∧ c ≤ maxLen ∧ (cs.length = n * z ∧ (A = none → c = 0)) ∧
    (0 < n → ∃ b off, A = some ⟨b, off, none⟩ ∧ b < B ∧ ∀ k c, cs[k]? = some c → ∃ u, w.cell? ⟨b, off + k, none⟩ = some u ∧ ClR w B c u)
theorem SlC.keep {z : Nat} {w w' : World} {B : Nat} {v : Value} {n : Nat} {cs : List Cl} (h : SlC z w B v n cs) (hk : ∀ p : Addr, p.block < B → w'.cell? p = w.cell? p) : SlC z w' B v n cs := by
  obtain ⟨A, c, h1, h2, h3, h4, h5⟩ := h
  refine ⟨A, c, h1, h2, h3, h4, fun hp => ?_⟩
  obtain ⟨b, off, e, hb, hc⟩ := h5 hp
  refine ⟨b, off, e, hb, fun k x hx => ?_⟩
  obtain ⟨u, hu, hs⟩ := hc k x hx
  exact ⟨u, by rw [hk _ hb]; exact hu, hs.keep hk⟩
theorem SlC.below {z : Nat} {w w' : World} {B B' : Nat} {v : Value} {n : Nat} {cs : List Cl} (h : SlC z w B v n cs) (hb : Below B' w w') (hB : B ≤ B') : SlC z w' B v n cs := h.keep fun _ hp => hb.cell (by omega)
theorem SlC.mono {z : Nat} {w : World} {B B' : Nat} {v : Value} {n : Nat} {cs : List Cl} (h : SlC z w B v n cs) (hB : B ≤ B') : SlC z w B' v n cs := by
  obtain ⟨A, c, h1, h2, h3, h4, h5⟩ := h
  refine ⟨A, c, h1, h2, h3, h4, fun hp => ?_⟩
  obtain ⟨b, off, e, hb, hc⟩ := h5 hp
  refine ⟨b, off, e, by omega, fun k x hx => ?_⟩
  obtain ⟨u, hu, hs⟩ := hc k x hx
  exact ⟨u, hu, hs.mono hB⟩
theorem SlC.drewN {z : Nat} {w : World} {B : Nat} {v : Value} {n : Nat} {cs : List Cl} (h : SlC z w B v n cs) (m : Nat) : SlC z (w.drewN m) B v n cs := h
theorem SlC.nil (z : Nat) (w : World) (B : Nat) : SlC z w B (.slice none 0 0) 0 [] := ⟨none, 0, rfl, Nat.le_refl _, by simp [maxLen], ⟨by simp, fun _ => rfl⟩, fun h => absurd h (by simp)⟩
/-- Such a row of the call's own; the blocks of its rows lie in S, each apart from the others. -/
def OwC (e : TypeId) (z : Nat) (w : World) (S : Nat → Prop) (v : Value) (n : Nat) (cs : List Cl) : Prop :=
  ∃ (vs : List Value) (tag : Nat → Nat), w.ownsRow 0 e z v n vs ∧ (∀ g, v.ownBlock = some g → S g ∧ tag g = 0) ∧ (vs.length = cs.length ∧ cs.length = n * z) ∧
    ∀ k u c, vs[k]? = some u → cs[k]? = some c → ClO w (fun b => S b ∧ tag b = k + 1) c u
theorem OwC.keep {e : TypeId} {z : Nat} {w w' : World} {S : Nat → Prop} {v : Value} {n : Nat} {cs : List Cl} (h : OwC e z w S v n cs) (hk : ∀ k, S k → w'.heap[k]? = w.heap[k]?) : OwC e z w' S v n cs := by
  obtain ⟨vs, tag, h1, h2, h3, h4⟩ := h
  exact ⟨vs, tag, ownsRow_keep h1 fun g hg => hk g (h2 g hg).1, h2, h3, fun k u c hu hc => (h4 k u c hu hc).keep fun b hb => hk b hb.1⟩
theorem OwC.mono {e : TypeId} {z : Nat} {w : World} {S S' : Nat → Prop} {v : Value} {n : Nat} {cs : List Cl} (h : OwC e z w S v n cs) (hs : ∀ k, S k → S' k) : OwC e z w S' v n cs := by
  obtain ⟨vs, tag, h1, h2, h3, h4⟩ := h
  exact ⟨vs, tag, h1, fun g hg => ⟨hs g (h2 g hg).1, (h2 g hg).2⟩, h3, fun k u c hu hc => (h4 k u c hu hc).iff fun b hb => ⟨hs b hb.1, hb.2⟩⟩
def rc_ (e : TypeId) (z : Nat) (v : Value) (n : Nat) (cs : List Cl) : Itm := ⟨fun w S => OwC e z w S v n cs, fun h hk => h.keep hk⟩
theorem OwC.below {e : TypeId} {z : Nat} {w w' : World} {B lo hi : Nat} {v : Value} {n : Nat} {cs : List Cl} (h : OwC e z w (Iv lo hi) v n cs) (hb : Below B w w') (hB : hi ≤ B) : OwC e z w' (Iv lo hi) v n cs :=
  h.keep fun k hk => hb.block k (by have := hk.2; omega)
theorem OwC.sl {e : TypeId} {z : Nat} {w : World} {S : Nat → Prop} {B : Nat} {v : Value} {n : Nat} {cs : List Cl} (h : OwC e z w S v n cs) (hB : ∀ b, S b → b < B) : SlC z w B v n cs := by
  obtain ⟨vs, tag, h1, h2, ⟨h3, h3'⟩, h4⟩ := h
  have h1' := h1
  rcases h1.2 with ⟨rfl, h0⟩ | ⟨g, cap, cur, rfl, hlo, hh, hn, hcap, hsz, htake⟩
  · subst h0
    rw [show cs = [] from List.eq_nil_of_length_eq_zero (by omega)]
    exact SlC.nil z w B
  · refine ⟨_, cap, rfl, hn, hcap, ⟨h3', by simp⟩, fun hp => ⟨g, 0, rfl, hB g (h2 g rfl).1, fun k c hc => ?_⟩⟩
    have hk : k < cs.length := (List.getElem?_eq_some_iff.1 hc).1
    obtain ⟨u, hu⟩ : ∃ u, vs[k]? = some u := ⟨vs[k], List.getElem?_eq_getElem (by omega)⟩
    refine ⟨u, ?_, ?_⟩
    · rw [Nat.zero_add, h1'.cellAt k (by omega), hu]
    · have h5 := h4 k u c hu hc
      cases c with
      | p x => exact h5
      | s xs =>
        obtain ⟨a, b, ho, hab, hS⟩ := ow_of_rw h5
        rcases hab with h6 | h6
        · exact ho.sl (by omega)
        · exact ho.sl (by have := hB _ (hS (b - 1) (by omega) (by omega)).1; omega)
theorem OwC.nil (e : TypeId) (z : Nat) (w : World) (S : Nat → Prop) : OwC e z w S (.slice none 0 0) 0 [] := ⟨[], fun _ => 0, World.ownsRow_nil w 0 _ z, by simp [Value.ownBlock], by simp, fun k u c h => by simp at h⟩
theorem hs_owc {e : TypeId} {z : Nat} {w w' : World} {v : Value} {n : Nat} {cs : List Cl} (h : OwC e z w' (Iv w.heap.size w'.heap.size) v n cs) (hb : Below w.heap.size w w') : Hs w' w.heap.size [rc_ e z v n cs] :=
  Hs.one (t := rc_ e z v n cs) hb.size h fun _ hk => hk
/-- The shape of such a row, and a cell. -/
theorem OwC.shape {e : TypeId} {z : Nat} {w : World} {S : Nat → Prop} {v : Value} {n : Nat} {cs : List Cl} (h : OwC e z w S v n cs) {k : Nat} {c : Cl} (hc : cs[k]? = some c) :
    ∃ g cap u, v = .slice (some ⟨g, 0, none⟩) n cap ∧ S g ∧ w.cell? ⟨g, k, none⟩ = some u ∧ w.frozen? ⟨g, k, none⟩ = false ∧ (∀ x, c = .p x → u = x) := by
  obtain ⟨vs, tag, h1, h2, ⟨h3, h3'⟩, h4⟩ := h
  have hk : k < cs.length := (List.getElem?_eq_some_iff.1 hc).1
  have h1' := h1
  rcases h1.2 with ⟨rfl, h0⟩ | ⟨g, cap, cur, rfl, hlo, hh, hn, hcap, hsz, htake⟩
  · subst h0; omega
  · obtain ⟨u, hu⟩ : ∃ u, vs[k]? = some u := ⟨vs[k], List.getElem?_eq_getElem (by omega)⟩
    refine ⟨g, cap, u, rfl, (h2 g rfl).1, by rw [h1'.cellAt k (by omega), hu], h1'.frozenAt k, fun x hx => ?_⟩
    have := h4 k u c hu hc
    rw [hx] at this
    exact this
/-- A plain store into a plain cell. -/
theorem OwC.setP {e : TypeId} {z : Nat} {w : World} {S : Nat → Prop} {g n cap : Nat} {cs : List Cl} (h : OwC e z w S (.slice (some ⟨g, 0, none⟩) n cap) n cs) {k : Nat} (hk : k < cs.length) (x : Value) :
    OwC e z (w.setCell ⟨g, k, none⟩ x) S (.slice (some ⟨g, 0, none⟩) n cap) n (cs.set k (.p x)) ∧ ChgS S w (w.setCell ⟨g, k, none⟩ x) := by
  obtain ⟨vs, tag, h1, h2, ⟨h3, h3'⟩, h4⟩ := h
  have hg := h2 g rfl
  have hs := h1.stored k x
  refine ⟨⟨vs.set k x, tag, hs.1, h2, ⟨by simp [h3], by simpa using h3'⟩, fun j u c hu hc => ?_⟩, rfl, rfl, rfl, by simp [World.setCell], fun j _ hj2 => Below.heap_setCell _ _ _ _ fun e => hj2 (by rw [e]; exact hg.1)⟩
  by_cases hjk : j = k
  · subst hjk
    rw [List.getElem?_set_self (by omega)] at hu hc
    injection hu with hu
    injection hc with hc
    subst hu hc
    rfl
  · rw [List.getElem?_set_ne (by omega)] at hu hc
    refine (h4 j u c hu hc).keep fun b hb => Below.heap_setCell _ _ _ _ fun e => ?_
    simp only at e
    have := hb.2
    rw [e] at this
    have := hg.2
    omega
/-- One of the rows inside; another may be put into its place. -/
theorem OwC.at_ {e : TypeId} {z : Nat} {w : World} {S : Nat → Prop} {v : Value} {n : Nat} {cs : List Cl} (h : OwC e z w S v n cs) (k : Nat) (xs : List Int) (hk : cs[k]? = some (.s xs)) (hS : ∀ b, S b → b < w.heap.size) :
    ∃ g cap u a b, v = .slice (some ⟨g, 0, none⟩) n cap ∧ w.cell? ⟨g, k, none⟩ = some u ∧ Ow w a b u xs ∧ b ≤ w.heap.size ∧ (∀ j, a ≤ j → j < b → S j) ∧
      ∀ (ys : List Int) (w' : World), Ow w' a b u ys → Chg a b w w' → OwC e z w' S v n (cs.set k (.s ys)) := by
  obtain ⟨vs, tag, h1, h2, ⟨h3, h3'⟩, h4⟩ := h
  have hkl : k < cs.length := (List.getElem?_eq_some_iff.1 hk).1
  have h1' := h1
  rcases h1.2 with ⟨rfl, h0⟩ | ⟨g, cap, cur, rfl, hlo, hh, hn, hcap, hsz, htake⟩
  · subst h0; omega
  · obtain ⟨u, hu⟩ : ∃ u, vs[k]? = some u := ⟨vs[k], List.getElem?_eq_getElem (by omega)⟩
    obtain ⟨a, b, ho, hab, hSj⟩ := ow_of_rw (show (rw_ u xs).p w _ from h4 k u _ hu hk)
    have hb : b ≤ w.heap.size := by
      rcases hab with h5 | h5
      · omega
      · have := hS _ (hSj (b - 1) (by omega) (by omega)).1; omega
    refine ⟨g, cap, u, a, b, rfl, by rw [h1'.cellAt k (by omega), hu], ho, hb, fun j h5 h6 => (hSj j h5 h6).1, fun ys w' ho' hc => ?_⟩
    have hg := h2 g rfl
    have hgo : ¬ (a ≤ g ∧ g < b) := fun hc => by have := (hSj g hc.1 hc.2).2; omega
    refine ⟨vs, tag, ?_, h2, ⟨by simp [h3], by simpa using h3'⟩, fun j x c hx hc' => ?_⟩
    · exact ownsRow_keep h1' fun g' hg' => by simp [Value.ownBlock] at hg'; subst hg'; exact hc.block g (hS g hg.1) (by omega)
    · by_cases hjk : j = k
      · subst hjk
        rw [hu] at hx
        injection hx with hx
        subst hx
        rw [List.getElem?_set_self hkl] at hc'
        injection hc' with hc'
        subst hc'
        have h5 := rw_of_ow ho'
        exact ⟨h5.1, fun g' hg' => hSj g' (h5.2 g' hg').1 (h5.2 g' hg').2⟩
      · rw [List.getElem?_set_ne (by omega)] at hc'
        have h5 := h4 j x c hx hc'
        refine h5.keep fun b' hb' => hc.block b' (hS b' hb'.1) ?_
        by_cases h6 : a ≤ b' ∧ b' < b
        · have h7 := (hSj b' h6.1 h6.2).2
          have := hb'.2
          omega
        · omega
/-- A row is stored into a cell. -/
theorem OwC.setS {e : TypeId} {z : Nat} {w : World} {lo hi : Nat} {v u : Value} {n : Nat} {cs : List Cl} {xs : List Int} (h : OwC e z w (Iv lo hi) v n cs) (k : Nat) (hk : k < cs.length) (hu : Ow w hi w.heap.size u xs) (hhi : hi ≤ w.heap.size) :
    ∃ g cap x, v = .slice (some ⟨g, 0, none⟩) n cap ∧ lo ≤ g ∧ g < hi ∧ w.cell? ⟨g, k, none⟩ = some x ∧ w.frozen? ⟨g, k, none⟩ = false ∧
      OwC e z (w.setCell ⟨g, k, none⟩ u) (Iv lo (w.setCell ⟨g, k, none⟩ u).heap.size) v n (cs.set k (.s xs)) ∧ Chg lo hi w (w.setCell ⟨g, k, none⟩ u) := by
  obtain ⟨vs, tag, h1, h2, ⟨h3, h3'⟩, h4⟩ := h
  have h1' := h1
  rcases h1.2 with ⟨rfl, h0⟩ | ⟨g, cap, cur, rfl, hlo, hh, hn, hcap, hsz, htake⟩
  · subst h0; omega
  · obtain ⟨x, hx⟩ : ∃ x, vs[k]? = some x := ⟨vs[k], List.getElem?_eq_getElem (by omega)⟩
    have hg := h2 g rfl
    have hs := h1'.stored k u
    refine ⟨g, cap, x, rfl, hg.1.1, hg.1.2, by rw [h1'.cellAt k (by omega), hx], h1'.frozenAt k, ?_, ⟨rfl, rfl, rfl, by simp [World.setCell], fun j _ hj2 => Below.heap_setCell _ _ _ _ (by have := hg.1.1; have := hg.1.2; simp only; omega)⟩⟩
    have hsz : (w.setCell ⟨g, k, none⟩ u).heap.size = w.heap.size := by simp [World.setCell]
    refine ⟨vs.set k u, fun b => if hi ≤ b then k + 1 else if tag b = k + 1 then 0 else tag b, hs.1, fun g' hg' => ?_, ⟨by simp [h3], by simpa using h3'⟩, fun j y c hy hc => ?_⟩
    · simp [Value.ownBlock] at hg'
      subst hg'
      refine ⟨⟨hg.1.1, by rw [hsz]; have := hg.1.2; omega⟩, ?_⟩
      simp only
      rw [if_neg (by have := hg.1.2; omega), if_neg (by have := hg.2; omega)]
      exact hg.2
    · by_cases hjk : j = k
      · subst hjk
        rw [List.getElem?_set_self (by omega)] at hy hc
        injection hy with hy
        injection hc with hc
        subst hy hc
        have h5 := rw_of_ow hu
        refine ⟨ownsRow_keep h5.1 fun g' hg' => Below.heap_setCell _ _ _ _ (by have := (h5.2 g' hg').1; have := hg.1.2; simp only; omega), fun g' hg' => ?_⟩
        have h6 := h5.2 g' hg'
        refine ⟨⟨by have := hg.1.1; have := hg.1.2; omega, by rw [hsz]; exact h6.2⟩, ?_⟩
        simp only
        rw [if_pos h6.1]
      · rw [List.getElem?_set_ne (by omega)] at hy hc
        have h5 := h4 j y c hy hc
        refine (h5.keep fun b hb => Below.heap_setCell _ _ _ _ fun e => ?_).iff fun b hb => ?_
        · simp only at e
          have := hb.2
          rw [e] at this
          have := hg.2
          omega
        · refine ⟨⟨hb.1.1, by rw [hsz]; have := hb.1.2; omega⟩, ?_⟩
          simp only
          rw [if_neg (by have := hb.1.2; omega), if_neg (by have := hb.2; omega)]
          exact hb.2
/-- From a row whose cells are plain. -/
theorem OwC.plain {e : TypeId} {z : Nat} {w : World} {lo : Nat} {S : Nat → Prop} {v : Value} {n : Nat} {xs : List Value} (h : w.ownsRow lo e z v n xs) (hl : xs.length = n * z) (hs : ∀ g, v.ownBlock = some g → S g) : OwC e z w S v n (xs.map Cl.p) := by
  refine ⟨xs, fun _ => 0, ?_, fun g hg => ⟨hs g hg, rfl⟩, ⟨by simp, by simpa using hl⟩, fun k u c hu hc => ?_⟩
  · obtain ⟨h1, h2⟩ := h
    refine ⟨h1, ?_⟩
    rcases h2 with h2 | ⟨g, cap, cur, e, hlo, r⟩
    · exact .inl h2
    · exact .inr ⟨g, cap, cur, e, Nat.zero_le _, r⟩
  · rw [List.getElem?_map, hu] at hc
    simp at hc
    subst hc
    rfl
/-- A plain nil slice is an empty row. -/
theorem OwC.nilS {e : TypeId} {z : Nat} {w : World} {S : Nat → Prop} {v : Value} {n : Nat} {cs : List Cl} (h : OwC e z w S v n cs) (cs' : List Cl) (hl : cs'.length = cs.length) (hc : ∀ (k : Nat) (c : Cl), cs'[k]? = some c → cs[k]? = some c ∨ (cs[k]? = some (Cl.p (.slice none 0 0)) ∧ c = Cl.s [])) : OwC e z w S v n cs' := by
  obtain ⟨vs, tag, h1, h2, ⟨h3, h3'⟩, h4⟩ := h
  refine ⟨vs, tag, h1, h2, ⟨by omega, by omega⟩, fun k u c hu hc' => ?_⟩
  rcases hc k c hc' with h5 | ⟨h5, rfl⟩
  · exact h4 k u c hu h5
  · have := h4 k u _ hu h5
    simp only [ClO] at this
    subst this
    exact rw_nil _ _
end Go.Proofs.YtbefioljddhhpaaGreat
/-
  Descriptions of loops (five numbers and the parents, as one list) and carriers in memory, and the laws' helpers on them.
-/
namespace Go.Proofs.YtbefioljddhhpaaGreat
set_option maxRecDepth 10000
open Go.RowKit

theorem flat_getG {α : Type} {z : Nat} {M : List (List α)} (h : ∀ r ∈ M, r.length = z) {k j : Nat} (hk : k < M.length) (hj : j < z) : M.flatten[k * z + j]? = M[k][j]? := by
  induction M generalizing k with
  | nil => simp at hk
  | cons r M ih =>
    have hr := h r (by simp)
    rw [List.flatten_cons]
    cases k with
    | zero => rw [Nat.zero_mul, Nat.zero_add, List.getElem?_append_left (by omega)]; rfl
    | succ k =>
      rw [Nat.succ_mul, List.getElem?_append_right (by omega), show k * z + z + j - r.length = k * z + j by omega]
      exact ih (fun s hs => h s (by simp [hs])) (by simpa using hk)
theorem flat_lenG {α : Type} {z : Nat} {M : List (List α)} (h : ∀ r ∈ M, r.length = z) : M.flatten.length = M.length * z := by
  induction M with
  | nil => simp
  | cons r M ih =>
    rw [List.flatten_cons, List.length_append, ih fun s hs => h s (by simp [hs]), h r (by simp), List.length_cons, Nat.succ_mul]; omega
theorem flat_setG {α : Type} {z : Nat} {M : List (List α)} (h : ∀ r ∈ M, r.length = z) {k j : Nat} (hk : k < M.length) (hj : j < z) (x : α) : M.flatten.set (k * z + j) x = (M.set k (M[k].set j x)).flatten := by
  induction M generalizing k with
  | nil => simp at hk
  | cons r M ih =>
    have hr := h r (by simp)
    rw [List.flatten_cons]
    cases k with
    | zero => rw [Nat.zero_mul, Nat.zero_add, List.set_append_left _ _ (by omega)]; rfl
    | succ k =>
      rw [Nat.succ_mul, List.set_append_right _ _ (by omega), show k * z + z + j - r.length = k * z + j by omega, ih (fun s hs => h s (by simp [hs])) (by simpa using hk)]
      rfl
theorem made_gen {cells : Array Value} {z : Nat} (hz : cells.size = z) (h0 : 0 < z) (n : Nat) : (madeCells cells (n * z)).toList = (List.replicate n cells.toList).flatten := by
  have hM : ∀ r ∈ List.replicate n cells.toList, r.length = z := fun r hr => by rw [(List.mem_replicate.1 hr).2]; simpa using hz
  apply List.ext_getElem?
  intro j
  by_cases hj : j < n * z
  · have hm : j % z < z := Nat.mod_lt _ h0
    have hd : j / z < n := by rw [Nat.div_lt_iff_lt_mul h0]; exact hj
    have e : j = j / z * z + j % z := by rw [Nat.mul_comm]; exact (Nat.div_add_mod j z).symm
    have h1 := flat_getG hM (k := j / z) (j := j % z) (by simpa using hd) hm
    rw [← e] at h1
    rw [h1]
    simp [madeCells, hj, hz, getElem!_pos, hm]
  · rw [List.getElem?_eq_none (by simp [madeCells]; omega), List.getElem?_eq_none (by rw [flat_lenG hM]; simp; omega)]
/-- The cells of a description: five numbers, and the parents behind them. -/
def infC1 (o : List Int) : List Cl := [.p (.int .i64 (gi o 0)), .p (.int .i64 (gi o 1)), .p (.int .i64 (gi o 2)), .p (.int .i64 (gi o 3)), .p (.int .i64 (gi o 4)), .s (o.drop 5)]
def infC (L : List (List Int)) : List Cl := (L.map infC1).flatten
def carC1 (c : Bool × Int) : List Cl := [.p (.bool c.1), .p (.int .i64 c.2)]
def carC (C : List (Bool × Int)) : List Cl := (C.map carC1).flatten
theorem infC_6 (L : List (List Int)) : ∀ r ∈ L.map infC1, r.length = 6 := fun r hr => by obtain ⟨o, -, rfl⟩ := List.mem_map.1 hr; rfl
theorem carC_2 (C : List (Bool × Int)) : ∀ r ∈ C.map carC1, r.length = 2 := fun r hr => by obtain ⟨o, -, rfl⟩ := List.mem_map.1 hr; rfl
theorem infC_len (L : List (List Int)) : (infC L).length = L.length * 6 := by unfold infC; rw [flat_lenG (infC_6 L)]; simp
theorem carC_len (C : List (Bool × Int)) : (carC C).length = C.length * 2 := by unfold carC; rw [flat_lenG (carC_2 C)]; simp
theorem infC_get {L : List (List Int)} {k j : Nat} (hk : k < L.length) (hj : j < 6) : (infC L)[k * 6 + j]? = (infC1 (gl L k))[j]? := by
  unfold infC; rw [flat_getG (infC_6 L) (by simpa using hk) hj]; simp [gl_eq hk]
/-- Carrier k. -/
def gc (C : List (Bool × Int)) (k : Nat) : Bool × Int := C.getD k (false, 0)
theorem gc_eq {D : List (Bool × Int)} {k : Nat} (h : k < D.length) : gc D k = D[k] := by simp [gc, List.getD, h]
theorem carC_get {C : List (Bool × Int)} {k j : Nat} (hk : k < C.length) (hj : j < 2) : (carC C)[k * 2 + j]? = (carC1 (gc C k))[j]? := by
  unfold carC; rw [flat_getG (carC_2 C) (by simpa using hk) hj]; simp [gc_eq hk]
theorem carC_set {C : List (Bool × Int)} {k j : Nat} (hk : k < C.length) (hj : j < 2) {o : Bool × Int} {c : Cl} (h : (carC1 (gc C k)).set j c = carC1 o) : (carC C).set (k * 2 + j) c = carC (C.set k o) := by
  unfold carC
  rw [flat_setG (carC_2 C) (by simpa using hk) hj]
  congr 1
  rw [gc_eq hk] at h
  simp [List.map_set, h]
/-- Descriptions to read; carriers to read. -/
def SlF (w : World) (B : Nat) (v : Value) (L : List (List Int)) : Prop := SlC 6 w B v L.length (infC L)
def SlK (w : World) (B : Nat) (v : Value) (C : List (Bool × Int)) : Prop := SlC 2 w B v C.length (carC C)
theorem SlF.cells {w : World} {B : Nat} {v : Value} {L : List (List Int)} (h : SlF w B v L) : ∃ A c, v = .slice A L.length c ∧ L.length ≤ c ∧ c ≤ 9223372036854775807 ∧
    (0 < L.length → ∃ b off, A = some ⟨b, off, none⟩ ∧ b < B ∧ ∀ k, k < L.length → (∀ j, j < 5 → w.cell? ⟨b, off + k * 6 + j, none⟩ = some (.int .i64 (gi (gl L k) j))) ∧ ∃ u, w.cell? ⟨b, off + k * 6 + 5, none⟩ = some u ∧ Sl w B u ((gl L k).drop 5)) := by
  obtain ⟨A, c, h1, h2, h3, -, h5⟩ := h
  refine ⟨A, c, h1, h2, by simpa [maxLen] using h3, fun hp => ?_⟩
  obtain ⟨b, off, e, hb, hc⟩ := h5 hp
  refine ⟨b, off, e, hb, fun k hk => ⟨fun j hj => ?_, ?_⟩⟩
  · have hg := infC_get hk (show j < 6 by omega)
    have : (infC1 (gl L k))[j]? = some (.p (.int .i64 (gi (gl L k) j))) := by
      match j, hj with
      | 0, _ => rfl
      | 1, _ => rfl
      | 2, _ => rfl
      | 3, _ => rfl
      | 4, _ => rfl
    obtain ⟨u, h6, h7⟩ := hc _ _ (hg.trans this)
    simp only [ClR] at h7
    subst h7
    rw [Nat.add_assoc]; exact h6
  · obtain ⟨u, h6, h7⟩ := hc _ _ ((infC_get hk (show 5 < 6 by omega)).trans rfl)
    exact ⟨u, by rw [Nat.add_assoc]; exact h6, h7⟩
theorem SlK.cells {w : World} {B : Nat} {v : Value} {C : List (Bool × Int)} (h : SlK w B v C) : ∃ A c, v = .slice A C.length c ∧ C.length ≤ c ∧ c ≤ 9223372036854775807 ∧
    (0 < C.length → ∃ b off, A = some ⟨b, off, none⟩ ∧ b < B ∧ ∀ k, k < C.length → w.cell? ⟨b, off + k * 2, none⟩ = some (.bool (gc C k).1) ∧ w.cell? ⟨b, off + k * 2 + 1, none⟩ = some (.int .i64 (gc C k).2)) := by
  obtain ⟨A, c, h1, h2, h3, -, h5⟩ := h
  refine ⟨A, c, h1, h2, by simpa [maxLen] using h3, fun hp => ?_⟩
  obtain ⟨b, off, e, hb, hc⟩ := h5 hp
  refine ⟨b, off, e, hb, fun k hk => ⟨?_, ?_⟩⟩
  · obtain ⟨u, h6, h7⟩ := hc _ _ ((carC_get hk (show 0 < 2 by omega)).trans rfl)
    simp only [ClR] at h7
    subst h7
    exact h6
  · obtain ⟨u, h6, h7⟩ := hc _ _ ((carC_get hk (show 1 < 2 by omega)).trans rfl)
    simp only [ClR] at h7
    subst h7
    rw [Nat.add_assoc]; exact h6
theorem chgS_iv {lo hi : Nat} {w w' : World} (h : ChgS (Iv lo hi) w w') : Chg lo hi w w' := ⟨h.os, h.tape, h.output, h.size, fun k hk hd => h.block k hk fun hs => by have := hs.1; have := hs.2; omega⟩
theorem infC_step {L : List (List Int)} {k : Nat} (hk : k < L.length) (R : List Cl) (j : Nat) (c : Cl) (hR : R.length = 6) (hj : j < 6) : ((L.map infC1).set k R).flatten.set (k * 6 + j) c = ((L.map infC1).set k (R.set j c)).flatten := by
  have h6 : ∀ r ∈ (L.map infC1).set k R, r.length = 6 := fun r hr => by
    rcases List.mem_or_eq_of_mem_set hr with hr | rfl
    · exact infC_6 L r hr
    · exact hR
  rw [flat_setG h6 (by simpa using hk) hj, List.set_set, List.getElem_set_self]
theorem infC_first {L : List (List Int)} {k : Nat} (hk : k < L.length) (c : Cl) : (infC L).set (k * 6) c = ((L.map infC1).set k ((infC1 (gl L k)).set 0 c)).flatten := by
  have h := flat_setG (infC_6 L) (k := k) (j := 0) (by simpa using hk) (by omega) c
  rw [Nat.add_zero] at h
  unfold infC
  rw [h, List.getElem_map, gl_eq hk]
theorem infC_six {L : List (List Int)} {k : Nat} (hk : k < L.length) {a0 a1 a2 a3 a4 : Int} {ps : List Int} :
    (((((((infC L).set (k * 6) (.p (.int .i64 a0))).set (k * 6 + 1) (.p (.int .i64 a1))).set (k * 6 + 2) (.p (.int .i64 a2))).set (k * 6 + 3) (.p (.int .i64 a3))).set (k * 6 + 4) (.p (.int .i64 a4))).set (k * 6 + 5) (.s ps)) = infC (L.set k (a0 :: a1 :: a2 :: a3 :: a4 :: ps)) := by
  rw [infC_first hk, infC_step hk _ 1 _ rfl (by omega), infC_step hk _ 2 _ rfl (by omega), infC_step hk _ 3 _ rfl (by omega), infC_step hk _ 4 _ rfl (by omega), infC_step hk _ 5 _ rfl (by omega)]
  unfold infC
  rw [List.map_set]
  rfl
/-- A description laid anew, cell by cell. -/
theorem OwC.setI {w : World} {lo hi g n cap : Nat} {L : List (List Int)} {u : Value} {ps : List Int} {e : TypeId} (h : OwC e 6 w (Iv lo hi) (.slice (some ⟨g, 0, none⟩) n cap) n (infC L)) (k : Nat) (hk : k < L.length) (hu : Ow w hi w.heap.size u ps) (hhi : hi ≤ w.heap.size) (a0 a1 a2 a3 a4 : Int) :
    (∀ j, j < 6 → ∃ x, w.cell? ⟨g, k * 6 + j, none⟩ = some x ∧ w.frozen? ⟨g, k * 6 + j, none⟩ = false) ∧ ∃ W : World, W = (((((w.setCell ⟨g, k * 6, none⟩ (.int .i64 a0)).setCell ⟨g, k * 6 + 1, none⟩ (.int .i64 a1)).setCell ⟨g, k * 6 + 2, none⟩ (.int .i64 a2)).setCell ⟨g, k * 6 + 3, none⟩ (.int .i64 a3)).setCell ⟨g, k * 6 + 4, none⟩ (.int .i64 a4)).setCell ⟨g, k * 6 + 5, none⟩ u ∧
      OwC e 6 W (Iv lo W.heap.size) (.slice (some ⟨g, 0, none⟩) n cap) n (infC (L.set k (a0 :: a1 :: a2 :: a3 :: a4 :: ps))) ∧ Chg lo hi w W := by
  have hlen := infC_len L
  refine ⟨fun j hj => ?_, _, rfl, ?_⟩
  · obtain ⟨c, hc⟩ : ∃ c, (infC L)[k * 6 + j]? = some c := ⟨_, List.getElem?_eq_getElem (by omega)⟩
    obtain ⟨g', cap', x, e1, -, e2, e3, -⟩ := h.shape hc
    simp only [Value.slice.injEq, Option.some.injEq, Addr.mk.injEq] at e1
    obtain ⟨⟨rfl, -, -⟩, -, -⟩ := e1
    exact ⟨x, e2, e3⟩
  · have hst : ∀ (M : List Cl) (W : World), OwC e 6 W (Iv lo hi) (.slice (some ⟨g, 0, none⟩) n cap) n M → M.length = L.length * 6 → W.heap.size = w.heap.size → Ow W hi w.heap.size u ps → ∀ (i : Nat) (x : Value), i < L.length * 6 →
        OwC e 6 (W.setCell ⟨g, i, none⟩ x) (Iv lo hi) (.slice (some ⟨g, 0, none⟩) n cap) n (M.set i (.p x)) ∧ (M.set i (.p x)).length = L.length * 6 ∧ (W.setCell ⟨g, i, none⟩ x).heap.size = w.heap.size ∧ Ow (W.setCell ⟨g, i, none⟩ x) hi w.heap.size u ps ∧ Chg lo hi W (W.setCell ⟨g, i, none⟩ x) := fun M W hM hl hs ho i x hi' => by
      obtain ⟨p1, p2⟩ := hM.setP (k := i) (by omega) x
      obtain ⟨vs, tag, -, hg, -⟩ := hM
      have := (hg g rfl).1.2
      exact ⟨p1, by simpa using hl, by simpa [World.setCell] using hs, ho.keep fun b b1 b2 => Below.heap_setCell _ _ _ _ (by simp only; omega), chgS_iv p2⟩
    have hk6 : k * 6 + 6 ≤ L.length * 6 := by omega
    obtain ⟨o0, l0, s0, u0, c0⟩ := hst _ w h hlen rfl hu (k * 6) (.int .i64 a0) (by omega)
    obtain ⟨o1, l1, s1, u1, c1⟩ := hst _ _ o0 l0 s0 u0 (k * 6 + 1) (.int .i64 a1) (by omega)
    obtain ⟨o2, l2, s2, u2, c2⟩ := hst _ _ o1 l1 s1 u1 (k * 6 + 2) (.int .i64 a2) (by omega)
    obtain ⟨o3, l3, s3, u3, c3⟩ := hst _ _ o2 l2 s2 u2 (k * 6 + 3) (.int .i64 a3) (by omega)
    obtain ⟨o4, l4, s4, u4, c4⟩ := hst _ _ o3 l3 s3 u3 (k * 6 + 4) (.int .i64 a4) (by omega)
    obtain ⟨g', cap', x, e1, -, -, -, -, o5, c5⟩ := o4.setS (k * 6 + 5) (by omega) (by rw [s4]; exact u4) (by omega)
    simp only [Value.slice.injEq, Option.some.injEq, Addr.mk.injEq] at e1
    obtain ⟨⟨rfl, -, -⟩, -, -⟩ := e1
    refine ⟨?_, ((((c0.trans c1).trans c2).trans c3).trans c4).trans c5⟩
    rw [infC_six hk] at o5
    exact o5
/-- A carrier laid anew. -/
theorem OwC.setK {w : World} {S : Nat → Prop} {g n cap : Nat} {C : List (Bool × Int)} {e : TypeId} (h : OwC e 2 w S (.slice (some ⟨g, 0, none⟩) n cap) n (carC C)) (k : Nat) (hk : k < C.length) (a : Bool) (b : Int) :
    (∀ j, j < 2 → ∃ x, w.cell? ⟨g, k * 2 + j, none⟩ = some x ∧ w.frozen? ⟨g, k * 2 + j, none⟩ = false) ∧ ∃ W : World, W = (w.setCell ⟨g, k * 2, none⟩ (.bool a)).setCell ⟨g, k * 2 + 1, none⟩ (.int .i64 b) ∧
      OwC e 2 W S (.slice (some ⟨g, 0, none⟩) n cap) n (carC (C.set k (a, b))) ∧ ChgS S w W := by
  have hlen := carC_len C
  refine ⟨fun j hj => ?_, _, rfl, ?_⟩
  · obtain ⟨c, hc⟩ : ∃ c, (carC C)[k * 2 + j]? = some c := ⟨_, List.getElem?_eq_getElem (by omega)⟩
    obtain ⟨g', cap', x, e1, -, e2, e3, -⟩ := h.shape hc
    simp only [Value.slice.injEq, Option.some.injEq, Addr.mk.injEq] at e1
    obtain ⟨⟨rfl, -, -⟩, -, -⟩ := e1
    exact ⟨x, e2, e3⟩
  · obtain ⟨o0, c0⟩ := h.setP (k := k * 2) (by omega) (.bool a)
    obtain ⟨o1, c1⟩ := o0.setP (k := k * 2 + 1) (by simp; omega) (.int .i64 b)
    refine ⟨?_, c0.trans c1⟩
    have e1 : (carC C).set (k * 2) (.p (.bool a)) = carC (C.set k (a, (gc C k).2)) := carC_set (j := 0) hk (by omega) rfl
    rw [e1, carC_set (C := C.set k (a, (gc C k).2)) (o := (a, b)) (j := 1) (by simpa using hk) (by omega) (by rw [gc_eq (by simpa using hk)]; simp [carC1]), List.set_set] at o1
    exact o1
end Go.Proofs.YtbefioljddhhpaaGreat
/-
  Contracts: the laws' helpers on descriptions of loops and on carriers.
-/
namespace Go.Proofs.YtbefioljddhhpaaGreat
set_option maxRecDepth 10000
open Go.RowKit

theorem setB {B : Nat} {w w1 : World} {p : Addr} {x : Value} (hp : B ≤ p.block) (h : Below B w w1) : Below B w (w1.setCell p x) :=
  ⟨h.os, h.tape, h.output, by simpa [World.setCell] using h.size, fun b hb => by rw [Below.heap_setCell _ _ _ _ (by omega)]; exact h.block b hb⟩
/-- Six stores into a box of six cells. -/
theorem box6_set {w : World} {g : Nat} {b0 b1 b2 b3 b4 b5 : Value} {t : TypeId} (a0 a1 a2 a3 a4 a5 : Value) (hx : w.heap[g]? = some (.cells #[b0, b1, b2, b3, b4, b5] t)) :
    let W := (((((w.setCell ⟨g, 0, none⟩ a0).setCell ⟨g, 1, none⟩ a1).setCell ⟨g, 2, none⟩ a2).setCell ⟨g, 3, none⟩ a3).setCell ⟨g, 4, none⟩ a4).setCell ⟨g, 5, none⟩ a5
    W.heap[g]? = some (.cells #[a0, a1, a2, a3, a4, a5] t) ∧ (∀ j, j ≠ g → W.heap[j]? = w.heap[j]?) ∧ W.heap.size = w.heap.size ∧ ∀ B, B ≤ g → Below B w W := by
  intro W
  refine ⟨?_, fun j hj => ?_, by simp [W, World.setCell], fun B hB => setB hB (setB hB (setB hB (setB hB (setB hB (setB hB (Below.refl _ _))))))⟩
  · have h := heap_setCell_at (k := 5) a5 (heap_setCell_at (k := 4) a4 (heap_setCell_at (k := 3) a3 (heap_setCell_at (k := 2) a2 (heap_setCell_at (k := 1) a1 (heap_setCell_at (k := 0) a0 hx)))))
    exact h
  · simp only [W]
    rw [Below.heap_setCell _ _ _ _ hj, Below.heap_setCell _ _ _ _ hj, Below.heap_setCell _ _ _ _ hj, Below.heap_setCell _ _ _ _ hj, Below.heap_setCell _ _ _ _ hj, Below.heap_setCell _ _ _ _ hj]
theorem box6 {w : World} {g : Nat} {a b c d e f : Value} {t : TypeId} (h : w.heap[g]? = some (.cells #[a, b, c, d, e, f] t)) :
    (w.cell? ⟨g, 0, none⟩ = some a ∧ w.cell? ⟨g, 1, none⟩ = some b ∧ w.cell? ⟨g, 2, none⟩ = some c ∧ w.cell? ⟨g, 3, none⟩ = some d ∧ w.cell? ⟨g, 4, none⟩ = some e ∧ w.cell? ⟨g, 5, none⟩ = some f) ∧ (∀ k, w.frozen? ⟨g, k, none⟩ = false) ∧ g < w.heap.size :=
  ⟨⟨cell_of_row w g 0 _ t (0, 0) h, cell_of_row w g 1 _ t (0, 0) h, cell_of_row w g 2 _ t (0, 0) h, cell_of_row w g 3 _ t (0, 0) h, cell_of_row w g 4 _ t (0, 0) h, cell_of_row w g 5 _ t (0, 0) h⟩, fun k => by simp only [World.frozen?, h]; simp, heap_lt h⟩
def prs (L : List (List Int)) : List (List Int) := L.map fun o => o.drop 5
theorem prs_len (L : List (List Int)) : (prs L).length = L.length := by simp [prs]
theorem prs_gl {L : List (List Int)} {k : Nat} (h : k < L.length) : gl (prs L) k = (gl L k).drop 5 := by rw [gl_eq (by rw [prs_len]; exact h), gl_eq h]; simp [prs]
theorem five_of {w : World} {b o : Nat} {f : Nat → Int} (h : ∀ j, j < 5 → w.cell? ⟨b, o + j, none⟩ = some (.int .i64 (f j))) : w.cell? ⟨b, o, none⟩ = some (.int .i64 (f 0)) ∧ w.cell? ⟨b, o + 1, none⟩ = some (.int .i64 (f 1)) ∧ w.cell? ⟨b, o + 2, none⟩ = some (.int .i64 (f 2)) ∧ w.cell? ⟨b, o + 3, none⟩ = some (.int .i64 (f 3)) ∧ w.cell? ⟨b, o + 4, none⟩ = some (.int .i64 (f 4)) :=
  ⟨h 0 (by omega), h 1 (by omega), h 2 (by omega), h 3 (by omega), h 4 (by omega)⟩
theorem szCars_no {v : Value} {C : List (Bool × Int)} {B : Nat} {left : Int} {w : World} (h : SlK w B v C) (h1 : left ≤ 1048576) (h0 : 0 ≤ left) (hc : left < (C.length : Int)) :
    Calls Tryz.prog 13 #[v, .int .i64 left] w fun e w' => e = .returned (.int .i64 (-1)) ∧ Below w.heap.size w w' := by
  obtain ⟨A, c, rfl, hl, hm, -⟩ := h.cells
  have hlt : left - (C.length : Int) < 0 := by omega
  go_enter Tryz.func13, Tryz.ntmps13
  go_wp2
  go_ret
  exact ⟨rfl, Below.refl _ _⟩
theorem szCars_yes {v : Value} {C : List (Bool × Int)} {B : Nat} {left : Int} {w : World} (h : SlK w B v C) (h1 : left ≤ 1048576) (h0 : 0 ≤ left) (hc : ¬ left < (C.length : Int)) :
    Calls Tryz.prog 13 #[v, .int .i64 left] w fun e w' => e = .returned (.int .i64 (left - C.length)) ∧ Below w.heap.size w w' := by
  obtain ⟨A, c, rfl, hl, hm, -⟩ := h.cells
  have hlt : ¬ left - (C.length : Int) < 0 := by omega
  go_enter Tryz.func13, Tryz.ntmps13
  go_wp2
  go_ret
  exact ⟨rfl, Below.refl _ _⟩
set_option maxHeartbeats 400000 in
theorem szInf_no {a0 a1 a2 a3 a4 : Int} {v : Value} {xs : List Int} {B : Nat} {left : Int} {w : World} (h : Sl w B v xs) (hB : B ≤ w.heap.size) (h1 : left ≤ 1048576) (h0 : 0 ≤ left) (hc : left < xs.length) :
    Calls Tryz.prog 42 #[.agg #[.int .i64 a0, .int .i64 a1, .int .i64 a2, .int .i64 a3, .int .i64 a4, v], .int .i64 left] w fun e w' => e = .returned (.int .i64 (-1)) ∧ Below w.heap.size w w' := by
  obtain ⟨A, c, rfl, hl, hm, -⟩ := id h
  unfold maxLen at hm
  have hs := h.below (al1 w (.cells #[.int .i64 a0, .int .i64 a1, .int .i64 a2, .int .i64 a3, .int .i64 a4, .slice A xs.length c] 75)) hB
  go_enter Tryz.func42, Tryz.ntmps42
  go_wp2_with (go_at_call 15; refine (szInts_any hs h1 h0).mono ?_; rintro e w' ⟨rfl, rfl⟩; rw [if_pos hc])
  go_ret
  exact ⟨rfl, al1 _ _⟩
set_option maxHeartbeats 400000 in
theorem szInf_yes {a0 a1 a2 a3 a4 : Int} {v : Value} {xs : List Int} {B : Nat} {left : Int} {w : World} (h : Sl w B v xs) (hB : B ≤ w.heap.size) (h1 : left ≤ 1048576) (h0 : 0 ≤ left) (hc : ¬ left < xs.length) :
    Calls Tryz.prog 42 #[.agg #[.int .i64 a0, .int .i64 a1, .int .i64 a2, .int .i64 a3, .int .i64 a4, v], .int .i64 left] w fun e w' => e = .returned (.int .i64 (left - xs.length)) ∧ Below w.heap.size w w' := by
  obtain ⟨A, c, rfl, hl, hm, -⟩ := id h
  unfold maxLen at hm
  have hs := h.below (al1 w (.cells #[.int .i64 a0, .int .i64 a1, .int .i64 a2, .int .i64 a3, .int .i64 a4, .slice A xs.length c] 75)) hB
  have hc1 : ¬ left - xs.length < 0 := by omega
  go_enter Tryz.func42, Tryz.ntmps42
  go_wp2_with (go_at_call 15; refine (szInts_any hs h1 h0).mono ?_; rintro e w' ⟨rfl, rfl⟩; rw [if_neg hc])
  go_ret
  exact ⟨rfl, al1 _ _⟩
set_option maxHeartbeats 1600000 in
theorem szInfs_any {v : Value} {L : List (List Int)} {B : Nat} {left F : Int} {w : World} (h : SlF w B v L) (hB : B ≤ w.heap.size) (h1 : left ≤ 1048576) (h0 : 0 ≤ left)
    (HFa : Hid (left < ((L.length + lenSS (prs L) : Nat) : Int) → F = -1)) (HFb : Hid (¬ left < ((L.length + lenSS (prs L) : Nat) : Int) → F = left - ((L.length + lenSS (prs L) : Nat) : Int))) :
    Calls Tryz.prog 14 #[v, .int .i64 left] w fun e w' => e = .returned (.int .i64 F) ∧ Below w.heap.size w w' := by
  obtain ⟨A, c, rfl, hl, hm, hcell⟩ := h.cells
  have HC := Lib.hid hcell
  clear hcell h
  have hpl := prs_len L
  by_cases hn : left < L.length
  · have HF := Lib.hid (HFa.out (by omega))
    have hn1 : left - L.length < 0 := by omega
    rw [HF.out]
    clear hpl
    go_enter Tryz.func14, Tryz.ntmps14
    go_wp2
    go_ret
    exact ⟨rfl, Below.refl _ _⟩
  · have hn1 : ¬ left - L.length < 0 := by omega
    have HPL := Lib.hid hpl
    clear hpl
    go_enter Tryz.func14, Tryz.ntmps14
    go_wp2
    go_loopw [1, 5] (fun x i wr => ∃ k : Nat, k ≤ L.length ∧ i = .int .i64 k ∧ x = .int .i64 (left - L.length - lenSS ((prs L).take k)) ∧ 0 ≤ left - L.length - lenSS ((prs L).take k) ∧ Below w.heap.size w wr) (fun _ i _ => L.length - (intOf i).toNat)
    case atStart => exact ⟨0, Nat.zero_le _, rfl, by simp [lenSS], by simp [lenSS]; omega, Below.refl _ _⟩
    case round =>
      obtain ⟨k, hk, rfl, rfl, hge, hb⟩ := hrel
      by_cases hlt : k < L.length
      · obtain ⟨b, off, rfl, hbB, hcell⟩ := HC.out (by omega)
        obtain ⟨hc5, u, q5, s1⟩ := hcell k hlt
        obtain ⟨q0, q1, q2, q3, q4⟩ := five_of (fun j hj => (show wr.cell? ⟨b, off + k * 6 + j, none⟩ = some (.int .i64 (gi (gl L k) j)) by rw [hb.cell (by simp only; omega)]; exact hc5 j hj))
        have q5 : wr.cell? ⟨b, off + k * 6 + 5, none⟩ = some u := by rw [hb.cell (by simp only; omega)]; exact q5
        have s1 := s1.below hb hB
        have hz := hb.size
        have HL := Lib.hid (lenSS_take (xss := prs L) (k := k) (by rw [HPL.out]; exact hlt))
        have hrow := lenSS_row (xss := prs L) (k := k) (by rw [HPL.out]; exact hlt)
        rw [prs_gl hlt] at HL hrow
        generalize (gl L k).drop 5 = ps at *
        clear hcell hc5
        generalize hT : lenSS ((prs L).take k) = T at *
        have HT := Lib.hid hT
        clear hT
        by_cases hc : left - L.length - T < ps.length
        · have HFx := Lib.hid (HFa.out (by omega))
          go_wp2_with fail
          refine (szInf_no s1 (by omega) (by omega) (by omega) (by omega)).mono ?_
          rintro e w2 ⟨rfl, hb2⟩
          have HB := Lib.hid (hb.trans (hb2.mono hz))
          clear hb hb2
          go_wp2_with fail
          go_ret
          exact ⟨by rw [HFx.out]; rfl, HB.out⟩
        · have hc2 : ¬ left - L.length - T - ps.length < 0 := by omega
          go_wp2_with fail
          refine (szInf_yes s1 (by omega) (by omega) (by omega) (by omega)).mono ?_
          rintro e w2 ⟨rfl, hb2⟩
          have HB := Lib.hid (hb.trans (hb2.mono hz))
          clear hb hb2
          go_wp2_with fail
          go_roundw
          case rel => exact ⟨k + 1, by omega, by go_num, by rw [HL.out]; congr 1; omega, by rw [HL.out]; omega, HB.out⟩
          case measure => simp [intOf]; omega
      · obtain rfl : k = L.length := by omega
        have ht : (prs L).take L.length = prs L := by rw [List.take_of_length_le (by rw [HPL.out]; omega)]
        rw [ht] at hge ⊢
        clear ht
        have HFx := Lib.hid (HFb.out (by omega))
        go_wp2
        go_ret
        exact ⟨ret_int (by rw [HFx.out]; omega), hb⟩
set_option maxHeartbeats 1600000 in
theorem toInf_any (a0 a1 a2 a3 a4 : Int) (v : Value) (ps : List Int) (B : Nat) (w : World) (h : Sl w B v ps) (hB : B ≤ w.heap.size) (hsz : ps.length ≤ 1048576) :
    Calls Tryz.prog 60 #[.agg #[.int .i64 a0, .int .i64 a1, .int .i64 a2, .int .i64 a3, .int .i64 a4, v]] w fun e w' => ∃ r, e = .returned (.agg #[.int .i64 a0, .int .i64 a1, .int .i64 a2, .int .i64 a3, .int .i64 a4, r]) ∧ Ow w' w.heap.size w'.heap.size r ps ∧ Below w.heap.size w w' := by
  obtain ⟨A, c, rfl, -⟩ := id h
  have hA1 := al1 w (.cells #[.int .i64 a0, .int .i64 a1, .int .i64 a2, .int .i64 a3, .int .i64 a4, .slice A ps.length c] 75)
  have hs1 : (w.alloc (.cells #[.int .i64 a0, .int .i64 a1, .int .i64 a2, .int .i64 a3, .int .i64 a4, .slice A ps.length c] 75)).heap.size = w.heap.size + 1 := by simp
  have hA2 := al1 (w.alloc (.cells #[.int .i64 a0, .int .i64 a1, .int .i64 a2, .int .i64 a3, .int .i64 a4, .slice A ps.length c] 75)) (.cells #[.int .i64 0, .int .i64 0, .int .i64 0, .int .i64 0, .int .i64 0, .slice none 0 0] 81)
  have hx2 := alloc_at_ (w.alloc (.cells #[.int .i64 a0, .int .i64 a1, .int .i64 a2, .int .i64 a3, .int .i64 a4, .slice A ps.length c] 75)) (.cells #[.int .i64 0, .int .i64 0, .int .i64 0, .int .i64 0, .int .i64 0, .slice none 0 0] 81)
  have hs2 : ((w.alloc (.cells #[.int .i64 a0, .int .i64 a1, .int .i64 a2, .int .i64 a3, .int .i64 a4, .slice A ps.length c] 75)).alloc (.cells #[.int .i64 0, .int .i64 0, .int .i64 0, .int .i64 0, .int .i64 0, .slice none 0 0] 81)).heap.size = w.heap.size + 2 := by simp
  have hA3 := al1 ((w.alloc (.cells #[.int .i64 a0, .int .i64 a1, .int .i64 a2, .int .i64 a3, .int .i64 a4, .slice A ps.length c] 75)).alloc (.cells #[.int .i64 0, .int .i64 0, .int .i64 0, .int .i64 0, .int .i64 0, .slice none 0 0] 81)) (.cells #[.int .i64 a0, .int .i64 a1, .int .i64 a2, .int .i64 a3, .int .i64 a4, .slice none 0 0] 81)
  have hx3 := alloc_at_ ((w.alloc (.cells #[.int .i64 a0, .int .i64 a1, .int .i64 a2, .int .i64 a3, .int .i64 a4, .slice A ps.length c] 75)).alloc (.cells #[.int .i64 0, .int .i64 0, .int .i64 0, .int .i64 0, .int .i64 0, .slice none 0 0] 81)) (.cells #[.int .i64 a0, .int .i64 a1, .int .i64 a2, .int .i64 a3, .int .i64 a4, .slice none 0 0] 81)
  have hx2 := (hA3.block _ (by omega)).trans hx2
  have hs3 : (((w.alloc (.cells #[.int .i64 a0, .int .i64 a1, .int .i64 a2, .int .i64 a3, .int .i64 a4, .slice A ps.length c] 75)).alloc (.cells #[.int .i64 0, .int .i64 0, .int .i64 0, .int .i64 0, .int .i64 0, .slice none 0 0] 81)).alloc (.cells #[.int .i64 a0, .int .i64 a1, .int .i64 a2, .int .i64 a3, .int .i64 a4, .slice none 0 0] 81)).heap.size = w.heap.size + 3 := by simp
  have hA : Below w.heap.size w (((w.alloc (.cells #[.int .i64 a0, .int .i64 a1, .int .i64 a2, .int .i64 a3, .int .i64 a4, .slice A ps.length c] 75)).alloc (.cells #[.int .i64 0, .int .i64 0, .int .i64 0, .int .i64 0, .int .i64 0, .slice none 0 0] 81)).alloc (.cells #[.int .i64 a0, .int .i64 a1, .int .i64 a2, .int .i64 a3, .int .i64 a4, .slice none 0 0] 81)) := (hA1.trans (hA2.mono (by omega))).trans (hA3.mono (by omega))
  rw [hs1] at hx2
  rw [hs2] at hx3
  have H2 := Lib.hid hx2
  have H3 := Lib.hid hx3
  have HA := Lib.hid hA
  have HS1 := Lib.hid hs1
  have HS3 := Lib.hid hs3
  have hh := h.below hA hB
  clear hA1 hA2 hA3 hx2 hx3 hA hs1 hs2 hs3
  go_enter Tryz.func60, Tryz.ntmps60
  go_wp2_with fail
  refine (toInts_any _ ps B _ hh (by rw [HS3.out]; omega) hsz).mono ?_
  rintro e w1 ⟨r, rfl, ho, hb⟩
  rw [HS3.out] at ho hb
  obtain ⟨A2, c2, rfl, -⟩ := id (ho.sl (Nat.le_refl _))
  have hz := hb.size
  rw [HS3.out] at hz
  have hx2 := (hb.block _ (by omega)).trans H2.out
  have hx3 := (hb.block _ (by omega)).trans H3.out
  have HB := Lib.hid (HA.out.trans (hb.mono (by omega)))
  have HO := Lib.hid ho
  obtain ⟨⟨p0, p1, p2, p3, p4, p5⟩, pf, pl⟩ := box6 hx2
  obtain ⟨⟨q0, q1, q2, q3, q4, q5⟩, qf, ql⟩ := box6 hx3
  have hxA : (w1.setCell ⟨w.heap.size + 1 + 1, 5, none⟩ (.slice A2 ps.length c2)).heap[w.heap.size + 1]? = some (.cells #[.int .i64 0, .int .i64 0, .int .i64 0, .int .i64 0, .int .i64 0, .slice none 0 0] 81) := by
    rw [Below.heap_setCell _ _ _ _ (by simp)]; exact hx2
  obtain ⟨g1, g2, g3, g4⟩ := box6_set (.int .i64 a0) (.int .i64 a1) (.int .i64 a2) (.int .i64 a3) (.int .i64 a4) (.slice A2 ps.length c2) hxA
  obtain ⟨⟨e0, e1, e2, e3, e4, e5⟩, -, -⟩ := box6 g1
  have HG2 := Lib.hid g2
  have HG3 := Lib.hid g3
  have HG4 := Lib.hid (HB.out.trans ((setB (B := w.heap.size) (p := ⟨w.heap.size + 1 + 1, 5, none⟩) (x := .slice A2 ps.length c2) (by simp only; omega) (Below.refl _ w1)).trans (g4 w.heap.size (by omega))))
  have f0 := pf 0
  have f1 := pf 1
  have f2 := pf 2
  have f3 := pf 3
  have f4 := pf 4
  have f5 := pf 5
  have f6 := qf 5
  clear pf qf g1 g2 g3 g4 hxA hx2 hx3 ho hb H2 H3 HA HS1 HS3 h hh
  go_wp2_with fail
  refine bodyPost_ret (v := .agg #[.int .i64 a0, .int .i64 a1, .int .i64 a2, .int .i64 a3, .int .i64 a4, .slice A2 ps.length c2]) (by simp [results, Tryz.results60, go_sem, e0, e1, e2, e3, e4, e5]) rfl ?_
  refine ⟨_, rfl, ?_, ?_⟩
  · refine (HO.out.keep fun k h1 h2 => ?_).mono (by omega) (by rw [HG3.out]; simp [World.setCell])
    rw [HG2.out k (by omega), Below.heap_setCell _ _ _ _ (by simp only; omega)]
  · exact HG4.out
end Go.Proofs.YtbefioljddhhpaaGreat
/-
  Contracts: the laws' helpers on descriptions of loops and on carriers (copies, comparisons, marks).
-/
namespace Go.Proofs.YtbefioljddhhpaaGreat
set_option maxRecDepth 10000
open Go.RowKit

def Five (L : List (List Int)) : Prop := ∀ o ∈ L, 5 ≤ o.length
theorem list5 {o : List Int} (h : 5 ≤ o.length) : gi o 0 :: gi o 1 :: gi o 2 :: gi o 3 :: gi o 4 :: o.drop 5 = o := by
  match o, h with
  | a0 :: a1 :: a2 :: a3 :: a4 :: r, _ => rfl
theorem countFrom_cons (c : Int) (n : Nat) : countFrom c (n + 1) = c :: countFrom (c + 1) n := by
  induction n with
  | zero => simp [countFrom]
  | succ n ih =>
    rw [countFrom, ih, countFrom, List.cons_append]
    congr 3
    push_cast
    omega
theorem countFrom_5 (c : Int) {n : Nat} (h : 5 ≤ n) : countFrom c n = c :: (c + 1) :: (c + 2) :: (c + 3) :: (c + 4) :: countFrom (c + 5) (n - 5) := by
  obtain ⟨m, rfl⟩ : ∃ m, n = m + 5 := ⟨n - 5, by omega⟩
  rw [show m + 5 - 5 = m by omega, countFrom_cons, countFrom_cons, countFrom_cons, countFrom_cons, countFrom_cons]
  simp only [Int.add_assoc, Int.reduceAdd]
def z5 : List Int := [0, 0, 0, 0, 0]
def zc : List Value := [.int .i64 0, .int .i64 0, .int .i64 0, .int .i64 0, .int .i64 0, .slice none 0 0]
def filledI (L : List (List Int)) (k : Nat) : List (List Int) := L.take k ++ List.replicate (L.length - k) z5
theorem filledI_len (L : List (List Int)) (k : Nat) (h : k ≤ L.length) : (filledI L k).length = L.length := by simp [filledI]; omega
theorem filledI_zero (L : List (List Int)) : filledI L 0 = List.replicate L.length z5 := by simp [filledI]
theorem filledI_all (L : List (List Int)) : filledI L L.length = L := by simp [filledI]
theorem filledI_set (L : List (List Int)) (k : Nat) (h : k < L.length) {o : List Int} (ho : o = gl L k) : (filledI L k).set k o = filledI L (k + 1) := by
  subst ho
  unfold filledI
  have hl : (L.take k).length = k := by simp; omega
  rw [List.set_append_right _ _ (by omega), hl, Nat.sub_self]
  obtain ⟨m, hm⟩ : ∃ m, L.length - k = m + 1 := ⟨L.length - k - 1, by omega⟩
  rw [hm, List.replicate_succ, List.set_cons_zero, take_gl h, List.append_assoc, show L.length - (k + 1) = m from by omega]
  rfl
theorem map_flat_rep {α β : Type} (f : α → β) (n : Nat) (r : List α) : (List.replicate n r).flatten.map f = (List.replicate n (r.map f)).flatten := by
  induction n with
  | zero => simp
  | succ n ih => simp [List.replicate_succ, ih]
theorem infC_made (n k : Nat) (c : Cl) (h : (infC (List.replicate n z5))[k]? = some c) : ((List.replicate n zc).flatten.map Cl.p)[k]? = some c ∨ (((List.replicate n zc).flatten.map Cl.p)[k]? = some (Cl.p (.slice none 0 0)) ∧ c = Cl.s []) := by
  have hk : k < n * 6 := by
    have := (List.getElem?_eq_some_iff.1 h).1
    rw [infC_len] at this
    simpa using this
  have e : k = k / 6 * 6 + k % 6 := by omega
  have hm : k % 6 < 6 := Nat.mod_lt _ (by omega)
  have hd : k / 6 < n := by omega
  rw [map_flat_rep]
  have h6 : ∀ r ∈ List.replicate n (zc.map Cl.p), r.length = 6 := fun r hr => by rw [(List.mem_replicate.1 hr).2]; rfl
  rw [e, infC_get (by simpa using hd) hm, gl_eq (by simpa using hd), List.getElem_replicate] at h
  have g := flat_getG h6 (k := k / 6) (j := k % 6) (by simpa using hd) hm
  rw [← e, List.getElem_replicate] at g
  rw [g]
  generalize k % 6 = j at *
  match j, hm with
  | 0, _ => exact .inl h
  | 1, _ => exact .inl h
  | 2, _ => exact .inl h
  | 3, _ => exact .inl h
  | 4, _ => exact .inl h
  | 5, _ => exact .inr ⟨rfl, (Option.some.inj h).symm⟩
theorem infC_made_len (n : Nat) : (infC (List.replicate n z5)).length = ((List.replicate n zc).flatten.map Cl.p).length := by
  rw [infC_len, List.length_map, flat_lenG (z := 6) (fun r hr => by rw [(List.mem_replicate.1 hr).2]; rfl)]; simp
theorem carC_made (n : Nat) : carC (List.replicate n (false, 0)) = (List.replicate n [Value.bool false, .int .i64 0]).flatten.map Cl.p := by
  rw [map_flat_rep]; unfold carC; rw [List.map_replicate]; rfl
theorem info_info : (Tryz.prog.info? 81).map (fun i => (i.zero, i.size, i.bytes)) = some (some (.agg #[.int .i64 0, .int .i64 0, .int .i64 0, .int .i64 0, .int .i64 0, .slice none 0 0]), 6, 64) := by kernel_rfl
theorem car_info : (Tryz.prog.info? 78).map (fun i => (i.zero, i.size, i.bytes)) = some (some (.agg #[.bool false, .int .i64 0]), 2, 16) := by kernel_rfl
set_option maxHeartbeats 1600000 in
theorem toInfs_any {v : Value} {L : List (List Int)} {B : Nat} {w : World} (h : SlF w B v L) (hB : B ≤ w.heap.size) (h5 : Five L) (hsz : L.length + lenSS (prs L) ≤ 1048576) :
    Calls Tryz.prog 23 #[v] w fun e w' => ∃ r, e = .returned r ∧ OwC 81 6 w' (Iv w.heap.size w'.heap.size) r L.length (infC L) ∧ Below w.heap.size w w' := by
  obtain ⟨A, c, rfl, hl, hm, hc⟩ := h.cells
  have HC := Lib.hid hc
  have H5 := Lib.hid h5
  clear hc h5 h
  obtain ⟨i0, hi, hz0, hz1, hz2⟩ := info_parts info_info
  have HI := Lib.hid hi
  have HZ := Lib.hid hz0
  have hpl := prs_len L
  have HPL := Lib.hid hpl
  clear hi hz0 hpl
  go_enter Tryz.func23, Tryz.ntmps23
  go_wp2_with (at_make; refine wpList_make_full _ rfl _ _ 34 rfl w.heap.size 81 i0 (.agg #[.int .i64 0, .int .i64 0, .int .i64 0, .int .i64 0, .int .i64 0, .slice none 0 0]) 6 Tryz.underlying34 HI.out HZ.out hz1 _ _ _ _ L.length rfl rfl rfl rfl (by rw [hz2]; omega) (by unfold maxLen; omega) (Nat.le_refl _) ?_)
  intro w1 hown hg1
  have hO : OwC 81 6 w1 (Iv w.heap.size w1.heap.size) (.slice (some ⟨w.heap.size, 0, none⟩) L.length L.length) L.length (infC (filledI L 0)) := by
    rw [filledI_zero]
    have hown2 : w1.ownsRow w.heap.size 81 6 (.slice (some ⟨w.heap.size, 0, none⟩) L.length L.length) L.length (List.replicate L.length zc).flatten := by
      have e := made_gen (cells := #[Value.int .i64 0, .int .i64 0, .int .i64 0, .int .i64 0, .int .i64 0, .slice none 0 0]) (z := 6) rfl (by omega) L.length
      rw [show zc = (#[Value.int .i64 0, .int .i64 0, .int .i64 0, .int .i64 0, .int .i64 0, .slice none 0 0]).toList from rfl, ← e]
      exact hown
    refine (OwC.plain hown2 ?_ fun g hg => ⟨(hown2.lt g hg).1, (hown2.lt g hg).2⟩).nilS _ (infC_made_len _) fun k c hkc => infC_made _ k c hkc
    rw [flat_lenG (z := 6) (fun r hr => by rw [(List.mem_replicate.1 hr).2]; rfl)]; simp
  have hb1 : Below w.heap.size w w1 := (Below.refl _ _).grown hg1 (Nat.le_refl _) (by simp)
  clear hown hg1
  go_wp2
  go_loopw [4] (fun i wr => ∃ k : Nat, k ≤ L.length ∧ i = .int .i64 k ∧ OwC 81 6 wr (Iv w.heap.size wr.heap.size) (.slice (some ⟨w.heap.size, 0, none⟩) L.length L.length) L.length (infC (filledI L k)) ∧ Below w.heap.size w wr) (fun i _ => L.length - (intOf i).toNat)
  case atStart => exact ⟨0, Nat.zero_le _, rfl, hO, hb1⟩
  case round =>
    obtain ⟨k, hk, rfl, hO, hb⟩ := hrel
    by_cases hlt : k < L.length
    · obtain ⟨b, off, rfl, hbB, hcell⟩ := HC.out (by omega)
      obtain ⟨hc5, u, q5, s1⟩ := hcell k hlt
      obtain ⟨q0, q1, q2, q3, q4⟩ := five_of (fun j hj => (show wr.cell? ⟨b, off + k * 6 + j, none⟩ = some (.int .i64 (gi (gl L k) j)) by rw [hb.cell (by simp only; omega)]; exact hc5 j hj))
      have q5 : wr.cell? ⟨b, off + k * 6 + 5, none⟩ = some u := by rw [hb.cell (by simp only; omega)]; exact q5
      have s1 := s1.below hb hB
      have hz := hb.size
      have hrow := lenSS_row (xss := prs L) (k := k) (by rw [HPL.out]; exact hlt)
      rw [prs_gl hlt] at hrow
      have HL5 := Lib.hid (list5 (H5.out _ (gl_mem hlt)))
      have hfl := filledI_len L k hk
      clear hcell hc5
      generalize (gl L k).drop 5 = ps at *
      go_wp2_with fail
      refine (toInf_any _ _ _ _ _ _ _ _ _ s1 (by omega) (by omega)).mono ?_
      rintro e w2 ⟨r2, rfl, ho2, hq⟩
      obtain ⟨A2, c2, rfl, -⟩ := id (ho2.sl (Nat.le_refl _))
      have hO2 := hO.below hq (Nat.le_refl _)
      obtain ⟨hcs, W, hW, hO3, hch⟩ := OwC.setI hO2 k (by rw [hfl]; exact hlt) ho2 hq.size (gi (gl L k) 0) (gi (gl L k) 1) (gi (gl L k) 2) (gi (gl L k) 3) (gi (gl L k) 4)
      obtain ⟨x0, t0, u0⟩ := hcs 0 (by omega)
      obtain ⟨x1, t1, u1⟩ := hcs 1 (by omega)
      obtain ⟨x2, t2, u2⟩ := hcs 2 (by omega)
      obtain ⟨x3, t3, u3⟩ := hcs 3 (by omega)
      obtain ⟨x4, t4, u4⟩ := hcs 4 (by omega)
      obtain ⟨x5, t5, u5⟩ := hcs 5 (by omega)
      rw [Nat.add_zero] at t0 u0
      have HW := Lib.hid hW
      have HO3 := Lib.hid hO3
      have HCH := Lib.hid hch
      have HB2 := Lib.hid (hb.trans (hq.mono hz))
      have HZQ := Lib.hid (Nat.le_trans hz hq.size)
      clear hcs hW hO3 hch hO2 hO hq hb ho2
      go_wp2_with fail
      go_roundw
      case rel =>
        rw [← HW.out]
        have h3 := HO3.out
        rw [HL5.out, filledI_set L k hlt rfl] at h3
        exact ⟨k + 1, by omega, by go_num, h3, HB2.out.trans (HCH.out.below (Nat.le_refl _) HZQ.out)⟩
      case measure => simp [intOf]; omega
    · obtain rfl : k = L.length := by omega
      rw [filledI_all] at hO
      go_wp2
      go_ret
      exact ⟨_, rfl, hO, hb⟩
theorem toCar_any (a : Bool) (b : Int) (w : World) :
    Calls Tryz.prog 59 #[.agg #[.bool a, .int .i64 b]] w fun e w' => e = .returned (.agg #[.bool a, .int .i64 b]) ∧ Below w.heap.size w w' := by
  go_enter Tryz.func59, Tryz.ntmps59
  go_wp2
  go_returns
  exact ⟨rfl, by go_grown⟩
def filledK (D : List (Bool × Int)) (k : Nat) : List (Bool × Int) := D.take k ++ List.replicate (D.length - k) (false, 0)
theorem filledK_len (D : List (Bool × Int)) (k : Nat) (h : k ≤ D.length) : (filledK D k).length = D.length := by simp [filledK]; omega
theorem filledK_zero (D : List (Bool × Int)) : filledK D 0 = List.replicate D.length (false, 0) := by simp [filledK]
theorem filledK_all (D : List (Bool × Int)) : filledK D D.length = D := by simp [filledK]
theorem filledK_set (D : List (Bool × Int)) (k : Nat) (h : k < D.length) : (filledK D k).set k ((gc D k).1, (gc D k).2) = filledK D (k + 1) := by
  unfold filledK
  have hl : (D.take k).length = k := by simp; omega
  rw [List.set_append_right _ _ (by omega), hl, Nat.sub_self]
  obtain ⟨m, hm⟩ : ∃ m, D.length - k = m + 1 := ⟨D.length - k - 1, by omega⟩
  rw [hm, List.replicate_succ, List.set_cons_zero, List.take_succ_eq_append_getElem h, List.append_assoc, show D.length - (k + 1) = m from by omega, gc_eq h]
  rfl
set_option maxHeartbeats 1600000 in
theorem toCars_any {v : Value} {D : List (Bool × Int)} {B : Nat} {w : World} (h : SlK w B v D) (hB : B ≤ w.heap.size) (hsz : D.length ≤ 1048576) :
    Calls Tryz.prog 22 #[v] w fun e w' => ∃ r, e = .returned r ∧ OwC 78 2 w' (Iv w.heap.size w'.heap.size) r D.length (carC D) ∧ Below w.heap.size w w' := by
  obtain ⟨A, c, rfl, hl, hm, hc⟩ := h.cells
  have HC := Lib.hid hc
  clear hc h
  obtain ⟨i0, hi, hz0, hz1, hz2⟩ := info_parts car_info
  have HI := Lib.hid hi
  have HZ := Lib.hid hz0
  clear hi hz0
  go_enter Tryz.func22, Tryz.ntmps22
  go_wp2_with (at_make; refine wpList_make_full _ rfl _ _ 33 rfl w.heap.size 78 i0 (.agg #[.bool false, .int .i64 0]) 2 Tryz.underlying33 HI.out HZ.out hz1 _ _ _ _ D.length rfl rfl rfl rfl (by rw [hz2]; omega) (by unfold maxLen; omega) (Nat.le_refl _) ?_)
  intro w1 hown hg1
  have hO : OwC 78 2 w1 (Iv w.heap.size w1.heap.size) (.slice (some ⟨w.heap.size, 0, none⟩) D.length D.length) D.length (carC (filledK D 0)) := by
    rw [filledK_zero, carC_made]
    have hown2 : w1.ownsRow w.heap.size 78 2 (.slice (some ⟨w.heap.size, 0, none⟩) D.length D.length) D.length (List.replicate D.length [Value.bool false, .int .i64 0]).flatten := by
      have e := made_gen (cells := #[Value.bool false, .int .i64 0]) (z := 2) rfl (by omega) D.length
      rw [show [Value.bool false, .int .i64 0] = (#[Value.bool false, .int .i64 0]).toList from rfl, ← e]
      exact hown
    refine OwC.plain hown2 ?_ fun g hg => ⟨(hown2.lt g hg).1, (hown2.lt g hg).2⟩
    rw [flat_lenG (z := 2) (fun r hr => by rw [(List.mem_replicate.1 hr).2]; rfl)]; simp
  have hb1 : Below w.heap.size w w1 := (Below.refl _ _).grown hg1 (Nat.le_refl _) (by simp)
  clear hown hg1
  go_wp2
  go_loopw [4] (fun i wr => ∃ k : Nat, k ≤ D.length ∧ i = .int .i64 k ∧ OwC 78 2 wr (Iv w.heap.size wr.heap.size) (.slice (some ⟨w.heap.size, 0, none⟩) D.length D.length) D.length (carC (filledK D k)) ∧ Below w.heap.size w wr) (fun i _ => D.length - (intOf i).toNat)
  case atStart => exact ⟨0, Nat.zero_le _, rfl, hO, hb1⟩
  case round =>
    obtain ⟨k, hk, rfl, hO, hb⟩ := hrel
    by_cases hlt : k < D.length
    · obtain ⟨b, off, rfl, hbB, hcell⟩ := HC.out (by omega)
      obtain ⟨q0, q1⟩ := hcell k hlt
      have q0 : wr.cell? ⟨b, off + k * 2, none⟩ = some (.bool (gc D k).1) := by rw [hb.cell (by simp only; omega)]; exact q0
      have q1 : wr.cell? ⟨b, off + k * 2 + 1, none⟩ = some (.int .i64 (gc D k).2) := by rw [hb.cell (by simp only; omega)]; exact q1
      have hz := hb.size
      have hfl := filledK_len D k hk
      have HST := Lib.hid (filledK_set D k hlt)
      generalize (gc D k).1 = g1 at *
      generalize (gc D k).2 = g2 at *
      clear hcell
      go_wp2_with fail
      refine (toCar_any _ _ _).mono ?_
      rintro e w2 ⟨rfl, hq⟩
      have hO2 := (hO.below hq (Nat.le_refl _)).mono (S' := Iv w.heap.size w2.heap.size) fun b hb' => ⟨hb'.1, Nat.lt_of_lt_of_le hb'.2 hq.size⟩
      obtain ⟨hcs, W, hW, hO3, hch⟩ := OwC.setK hO2 k (by rw [hfl]; exact hlt) g1 g2
      obtain ⟨x0, t0, u0⟩ := hcs 0 (by omega)
      obtain ⟨x1, t1, u1⟩ := hcs 1 (by omega)
      rw [Nat.add_zero] at t0 u0
      have HW := Lib.hid hW
      have HO3 := Lib.hid hO3
      have HCH := Lib.hid (chgS_iv hch)
      have HB2 := Lib.hid (hb.trans (hq.mono hz))
      have HZQ := Lib.hid (Nat.le_trans hz hq.size)
      clear hcs hW hO3 hch hO2 hO hq hb
      go_wp2_with fail
      go_roundw
      case rel =>
        rw [← HW.out]
        have h3 := HO3.out
        rw [HST.out] at h3
        exact ⟨k + 1, by omega, by go_num, h3.mono fun b hb' => ⟨hb'.1, Nat.lt_of_lt_of_le hb'.2 HCH.out.size⟩, HB2.out.trans (HCH.out.below (Nat.le_refl _) HZQ.out)⟩
      case measure => simp [intOf]; omega
    · obtain rfl : k = D.length := by omega
      rw [filledK_all] at hO
      go_wp2
      go_ret
      exact ⟨_, rfl, hO, hb⟩
theorem eqCar_yes (a : Bool) (b : Int) (w : World) :
    Calls Tryz.prog 81 #[.agg #[.bool a, .int .i64 b], .agg #[.bool a, .int .i64 b]] w fun e w' => e = .returned (.bool true) ∧ Below w.heap.size w w' := by
  have t1 : (a != a) = false := by simp
  go_enter Tryz.func81, Tryz.ntmps81
  go_wp2
  go_ret
  exact ⟨rfl, al2 _ _ _⟩
set_option maxHeartbeats 1600000 in
theorem eqInf_yes {a0 a1 a2 a3 a4 : Int} {v1 v2 : Value} {ps : List Int} {B1 B2 : Nat} {w : World} (h1 : Sl w B1 v1 ps) (h2 : Sl w B2 v2 ps) (hB1 : B1 ≤ w.heap.size) (hB2 : B2 ≤ w.heap.size) :
    Calls Tryz.prog 82 #[.agg #[.int .i64 a0, .int .i64 a1, .int .i64 a2, .int .i64 a3, .int .i64 a4, v1], .agg #[.int .i64 a0, .int .i64 a1, .int .i64 a2, .int .i64 a3, .int .i64 a4, v2]] w fun e w' => e = .returned (.bool true) ∧ Below w.heap.size w w' := by
  obtain ⟨A, c, rfl, -⟩ := id h1
  obtain ⟨A2, c2, rfl, -⟩ := id h2
  go_enter Tryz.func82, Tryz.ntmps82
  go_wp2_with fail
  refine (eqInts_yes (h1.below (al2 _ _ _) hB1) (h2.below (al2 _ _ _) hB2) rfl).mono ?_
  rintro e w1 ⟨rfl, hb⟩
  go_wp2_with fail
  go_ret
  exact ⟨rfl, (al2 _ _ _).trans (hb.mono (by simp; omega))⟩
set_option maxHeartbeats 1600000 in
theorem eqCars_yes {v1 v2 : Value} {D : List (Bool × Int)} {B1 B2 : Nat} {w : World} (h1 : SlK w B1 v1 D) (h2 : SlK w B2 v2 D) (hB1 : B1 ≤ w.heap.size) (hB2 : B2 ≤ w.heap.size) :
    Calls Tryz.prog 31 #[v1, v2] w fun e w' => e = .returned (.bool true) ∧ Below w.heap.size w w' := by
  obtain ⟨A1, c1, rfl, hl1, hm1, hc1⟩ := h1.cells
  obtain ⟨A2, c2, rfl, hl2, hm2, hc2⟩ := h2.cells
  have HC1 := Lib.hid hc1
  have HC2 := Lib.hid hc2
  clear hc1 hc2 h1 h2
  go_enter Tryz.func31, Tryz.ntmps31
  go_wp2
  go_loopw [5] (fun i wr => ∃ k : Nat, k ≤ D.length ∧ i = .int .i64 k ∧ Below w.heap.size w wr) (fun i _ => D.length - (intOf i).toNat)
  case atStart => exact ⟨0, Nat.zero_le _, rfl, Below.refl _ _⟩
  case round =>
    obtain ⟨k, hk, rfl, hb⟩ := hrel
    by_cases hlt : k < D.length
    · obtain ⟨b1, o1, rfl, hb1, hcell1⟩ := HC1.out (by omega)
      obtain ⟨b2, o2, rfl, hb2, hcell2⟩ := HC2.out (by omega)
      obtain ⟨q0, q1⟩ := hcell1 k hlt
      obtain ⟨t0, t1⟩ := hcell2 k hlt
      replace q0 := cell_regrown (show wr.cell? ⟨b1, o1 + k * 2, none⟩ = some (.bool (gc D k).1) by rw [hb.cell (by simp only; omega)]; exact q0)
      replace q1 := cell_regrown (show wr.cell? ⟨b1, o1 + k * 2 + 1, none⟩ = some (.int .i64 (gc D k).2) by rw [hb.cell (by simp only; omega)]; exact q1)
      replace t0 := cell_regrown (show wr.cell? ⟨b2, o2 + k * 2, none⟩ = some (.bool (gc D k).1) by rw [hb.cell (by simp only; omega)]; exact t0)
      replace t1 := cell_regrown (show wr.cell? ⟨b2, o2 + k * 2 + 1, none⟩ = some (.int .i64 (gc D k).2) by rw [hb.cell (by simp only; omega)]; exact t1)
      clear hcell1 hcell2
      generalize (gc D k).1 = g1 at *
      generalize (gc D k).2 = g2 at *
      go_wp2
      refine wp_region_quiet_below (by kernel_rfl) (by kernel_rfl) ?_
      repeat (go_big_quiet_step (first | (go_at_call 81; exact Calls.regrown_of (eqCar_yes _ _ _))))
      refine wpQuiet_nil ?_
      intro _ hw'
      obtain ⟨⟨dq, osq⟩, hw''⟩ := hw'
      subst hw''
      go_wp2
      go_roundw
      case rel => exact ⟨k + 1, by omega, by go_num, hb.trans ((below_regrown _ _ _).mono hb.size)⟩
      case measure => simp [intOf]; omega
    · go_wp2
      go_ret
      exact ⟨rfl, hb⟩
set_option maxHeartbeats 3200000 in
theorem eqInfs_yes {v1 v2 : Value} {L : List (List Int)} {B1 B2 : Nat} {w : World} (h1 : SlF w B1 v1 L) (h2 : SlF w B2 v2 L) (hB1 : B1 ≤ w.heap.size) (hB2 : B2 ≤ w.heap.size) :
    Calls Tryz.prog 32 #[v1, v2] w fun e w' => e = .returned (.bool true) ∧ Below w.heap.size w w' := by
  obtain ⟨A1, c1, rfl, hl1, hm1, hc1⟩ := h1.cells
  obtain ⟨A2, c2, rfl, hl2, hm2, hc2⟩ := h2.cells
  have HC1 := Lib.hid hc1
  have HC2 := Lib.hid hc2
  clear hc1 hc2 h1 h2
  go_enter Tryz.func32, Tryz.ntmps32
  go_wp2
  go_loopw [5] (fun i wr => ∃ k : Nat, k ≤ L.length ∧ i = .int .i64 k ∧ Below w.heap.size w wr) (fun i _ => L.length - (intOf i).toNat)
  case atStart => exact ⟨0, Nat.zero_le _, rfl, Below.refl _ _⟩
  case round =>
    obtain ⟨k, hk, rfl, hb⟩ := hrel
    by_cases hlt : k < L.length
    · obtain ⟨b1, o1, rfl, hb1, hcell1⟩ := HC1.out (by omega)
      obtain ⟨b2, o2, rfl, hb2, hcell2⟩ := HC2.out (by omega)
      obtain ⟨hc5, u, q5, s1⟩ := hcell1 k hlt
      obtain ⟨hd5, u', t5, s2⟩ := hcell2 k hlt
      obtain ⟨q0, q1, q2, q3, q4⟩ := five_of (fun j hj => (show wr.cell? ⟨b1, o1 + k * 6 + j, none⟩ = some (.int .i64 (gi (gl L k) j)) by rw [hb.cell (by simp only; omega)]; exact hc5 j hj))
      obtain ⟨t0, t1, t2, t3, t4⟩ := five_of (fun j hj => (show wr.cell? ⟨b2, o2 + k * 6 + j, none⟩ = some (.int .i64 (gi (gl L k) j)) by rw [hb.cell (by simp only; omega)]; exact hd5 j hj))
      replace q0 := cell_regrown q0
      replace q1 := cell_regrown q1
      replace q2 := cell_regrown q2
      replace q3 := cell_regrown q3
      replace q4 := cell_regrown q4
      replace t0 := cell_regrown t0
      replace t1 := cell_regrown t1
      replace t2 := cell_regrown t2
      replace t3 := cell_regrown t3
      replace t4 := cell_regrown t4
      replace q5 := cell_regrown (show wr.cell? ⟨b1, o1 + k * 6 + 5, none⟩ = some u by rw [hb.cell (by simp only; omega)]; exact q5)
      replace t5 := cell_regrown (show wr.cell? ⟨b2, o2 + k * 6 + 5, none⟩ = some u' by rw [hb.cell (by simp only; omega)]; exact t5)
      have s1 := s1.below hb hB1
      have s2 := s2.below hb hB2
      have hz := hb.size
      have hz1 := Nat.le_trans hB1 hz
      have hz2 := Nat.le_trans hB2 hz
      clear hcell1 hcell2 hc5 hd5
      generalize (gl L k).drop 5 = ps at *
      generalize gl L k = o at *
      go_wp2
      refine wp_region_quiet_below (by kernel_rfl) (by kernel_rfl) ?_
      repeat (go_big_quiet_step (first | (go_at_call 82; exact Calls.regrown_of (eqInf_yes (s1.below (below_regrown _ _ _) hz1) (s2.below (below_regrown _ _ _) hz2) (Nat.le_trans hz1 (below_regrown _ _ _).size) (Nat.le_trans hz2 (below_regrown _ _ _).size)))))
      refine wpQuiet_nil ?_
      intro _ hw'
      obtain ⟨⟨dq, osq⟩, hw''⟩ := hw'
      subst hw''
      go_wp2
      go_roundw
      case rel => exact ⟨k + 1, by omega, by go_num, hb.trans ((below_regrown _ _ _).mono hb.size)⟩
      case measure => simp [intOf]; omega
    · go_wp2
      go_ret
      exact ⟨rfl, hb⟩
end Go.Proofs.YtbefioljddhhpaaGreat
/-
  Contracts: the laws' marks on descriptions of loops and on carriers.
-/
namespace Go.Proofs.YtbefioljddhhpaaGreat
set_option maxRecDepth 10000
open Go.RowKit

def markK (c : Int) (n : Nat) : List (Bool × Int) := (List.range n).map fun (i : Nat) => ((c + 2 * (i : Int)) % 3 == 0, c + 2 * (i : Int) + 1)
theorem markK_len (c : Int) (n : Nat) : (markK c n).length = n := by simp [markK]
theorem markK_gc {c : Int} {n k : Nat} (h : k < n) : gc (markK c n) k = ((c + 2 * (k : Int)) % 3 == 0, c + 2 * (k : Int) + 1) := by rw [gc_eq (by rw [markK_len]; exact h)]; simp [markK]
def markedK (c : Int) (D : List (Bool × Int)) (k : Nat) : List (Bool × Int) := markK c k ++ D.drop k
theorem markedK_zero (c : Int) (D : List (Bool × Int)) : markedK c D 0 = D := by simp [markedK, markK]
theorem markedK_all (c : Int) (D : List (Bool × Int)) : markedK c D D.length = markK c D.length := by simp [markedK]
theorem markedK_len (c : Int) (D : List (Bool × Int)) (k : Nat) (h : k ≤ D.length) : (markedK c D k).length = D.length := by simp [markedK, markK_len]; omega
theorem markedK_set (c : Int) (D : List (Bool × Int)) (k : Nat) (h : k < D.length) : (markedK c D k).set k ((c + 2 * (k : Int)) % 3 == 0, c + 2 * (k : Int) + 1) = markedK c D (k + 1) := by
  unfold markedK
  rw [List.set_append_right _ _ (by rw [markK_len]; exact Nat.le_refl _), markK_len, Nat.sub_self, List.drop_eq_getElem_cons h, List.set_cons_zero]
  simp [markK, List.range_succ]
set_option maxHeartbeats 1600000 in
theorem markCars_any {v : Value} {D : List (Bool × Int)} {S : Nat → Prop} {c : Int} {w : World} (h : OwC 78 2 w S v D.length (carC D)) (hS : ∀ b, S b → b < w.heap.size) (hsz : D.length ≤ 1048576) (hc0 : 0 ≤ c) (hc1 : c ≤ 1000000000) :
    Calls Tryz.prog 35 #[v, .int .i64 c] w fun e w' => e = .returned (.int .i64 (c + 2 * D.length)) ∧ OwC 78 2 w' S v D.length (carC (markK c D.length)) ∧ ChgS S w w' := by
  obtain ⟨A, cap, rfl, hl, hm, -⟩ := h.sl hS
  unfold maxLen at hm
  go_enter Tryz.func35, Tryz.ntmps35
  go_wp2
  go_loopw [1, 5] (fun x i wr => ∃ k : Nat, k ≤ D.length ∧ i = .int .i64 k ∧ x = .int .i64 (c + 2 * k) ∧ OwC 78 2 wr S (.slice A D.length cap) D.length (carC (markedK c D k)) ∧ ChgS S w wr) (fun _ i _ => D.length - (intOf i).toNat)
  case atStart => exact ⟨0, Nat.zero_le _, rfl, by simp, by rw [markedK_zero]; exact h, ChgS.refl _ _⟩
  case round =>
    obtain ⟨k, hk, rfl, rfl, hO, hb⟩ := hrel
    by_cases hlt : k < D.length
    · have hlm := markedK_len c D k hk
      obtain ⟨x, hx⟩ : ∃ x, (carC (markedK c D k))[k * 2]? = some x := ⟨_, List.getElem?_eq_getElem (by rw [carC_len, hlm]; omega)⟩
      obtain ⟨g, cap', u, hv, -, -, -, -⟩ := hO.shape hx
      obtain ⟨rfl, rfl⟩ : A = some ⟨g, 0, none⟩ ∧ cap = cap' := by injection hv with h1 h2 h3; exact ⟨h1, h3⟩
      obtain ⟨hcs, W, hW, hO3, hch⟩ := hO.setK k (by rw [hlm]; exact hlt) ((c + 2 * (k : Int)) % 3 == 0) (c + 2 * (k : Int) + 1)
      obtain ⟨x0, t0, u0⟩ := hcs 0 (by omega)
      obtain ⟨x1, t1, u1⟩ := hcs 1 (by omega)
      rw [Nat.add_zero] at t0 u0
      have HSET := Lib.hid (markedK_set c D k hlt)
      generalize hD : c + 2 * (k : Int) = E at *
      have hD0 : 0 ≤ E ∧ E ≤ 1010000000 := by omega
      obtain ⟨d0, d1⟩ := hD0
      have HW := Lib.hid hW
      have HO3 := Lib.hid hO3
      have HCH := Lib.hid (hb.trans hch)
      have HD := Lib.hid hD
      clear hcs hW hO3 hch hD hx hv hO hb hlm
      go_wp2_with fail
      go_roundw
      case rel =>
        rw [← HW.out]
        have h3 := HO3.out
        rw [HSET.out] at h3
        exact ⟨k + 1, by omega, by go_num, by rw [← HD.out]; go_num, h3, HCH.out⟩
      case measure => simp [intOf]; omega
    · obtain rfl : k = D.length := by omega
      rw [markedK_all] at hO
      go_wp2
      go_ret
      exact ⟨rfl, hO, hb⟩
set_option maxHeartbeats 1600000 in
theorem heldCars_any {v : Value} {n : Nat} {B : Nat} {c : Int} {w : World} (h : SlK w B v (markK c n)) (hsz : n ≤ 1048576) (hc0 : 0 ≤ c) (hc1 : c ≤ 1000000000) :
    Calls Tryz.prog 39 #[v, .int .i64 c] w fun e w' => e = .returned (.int .i64 (c + 2 * n)) ∧ Below w.heap.size w w' := by
  obtain ⟨A, cap, rfl, hl, hm, hc⟩ := h.cells
  rw [markK_len] at hl hc ⊢
  have HC := Lib.hid hc
  clear hc h
  go_enter Tryz.func39, Tryz.ntmps39
  go_wp2
  go_loopw [1, 5] (fun x i wr => ∃ k : Nat, k ≤ n ∧ i = .int .i64 k ∧ x = .int .i64 (c + 2 * k) ∧ wr = w) (fun _ i _ => n - (intOf i).toNat)
  case atStart => exact ⟨0, Nat.zero_le _, rfl, by simp, rfl⟩
  case round =>
    obtain ⟨k, hk, rfl, rfl, rfl⟩ := hrel
    by_cases hlt : k < n
    · obtain ⟨b, off, rfl, hbB, hcell⟩ := HC.out (by omega)
      obtain ⟨q0, q1⟩ := hcell k hlt
      rw [markK_gc hlt] at q0 q1
      clear hcell
      generalize hD : c + 2 * (k : Int) = E at *
      have hD0 : 0 ≤ E ∧ E ≤ 1010000000 := by omega
      obtain ⟨d0, d1⟩ := hD0
      have HD := Lib.hid hD
      clear hD
      have t1 : ((E % 3 == 0) != (E % 3 == 0)) = false := by simp
      go_wp2_with fail
      go_roundw
      case rel => exact ⟨k + 1, by omega, by go_num, by rw [← HD.out]; go_num, trivial⟩
      case measure => simp [intOf]; omega
    · obtain rfl : k = n := by omega
      go_wp2
      go_ret
      exact ⟨rfl, Below.refl _ _⟩
end Go.Proofs.YtbefioljddhhpaaGreat
/-
  Contracts: the laws' marks on descriptions of loops.
-/
namespace Go.Proofs.YtbefioljddhhpaaGreat
set_option maxRecDepth 10000
open Go.RowKit

/-- Five stores into the numbers of a description. -/
theorem OwC.set5 {e : TypeId} {w : World} {S : Nat → Prop} {g n cap : Nat} {M : List (List Int)} (h : OwC e 6 w S (.slice (some ⟨g, 0, none⟩) n cap) n (infC M)) (k : Nat) (hk : k < M.length) (a0 a1 a2 a3 a4 : Int) :
    (∀ j, j < 6 → ∃ x, w.cell? ⟨g, k * 6 + j, none⟩ = some x ∧ w.frozen? ⟨g, k * 6 + j, none⟩ = false) ∧ ∃ W : World, W = ((((w.setCell ⟨g, k * 6, none⟩ (.int .i64 a0)).setCell ⟨g, k * 6 + 1, none⟩ (.int .i64 a1)).setCell ⟨g, k * 6 + 2, none⟩ (.int .i64 a2)).setCell ⟨g, k * 6 + 3, none⟩ (.int .i64 a3)).setCell ⟨g, k * 6 + 4, none⟩ (.int .i64 a4) ∧
      OwC e 6 W S (.slice (some ⟨g, 0, none⟩) n cap) n ((((((infC M).set (k * 6) (.p (.int .i64 a0))).set (k * 6 + 1) (.p (.int .i64 a1))).set (k * 6 + 2) (.p (.int .i64 a2))).set (k * 6 + 3) (.p (.int .i64 a3))).set (k * 6 + 4) (.p (.int .i64 a4))) ∧ ChgS S w W ∧
      ((((((infC M).set (k * 6) (.p (.int .i64 a0))).set (k * 6 + 1) (.p (.int .i64 a1))).set (k * 6 + 2) (.p (.int .i64 a2))).set (k * 6 + 3) (.p (.int .i64 a3))).set (k * 6 + 4) (.p (.int .i64 a4)))[k * 6 + 5]? = some (.s ((gl M k).drop 5)) ∧ ∀ u, W.cell? ⟨g, k * 6 + 5, none⟩ = some u → w.cell? ⟨g, k * 6 + 5, none⟩ = some u := by
  have hlen := infC_len M
  refine ⟨fun j hj => ?_, _, rfl, ?_⟩
  · obtain ⟨c, hc⟩ : ∃ c, (infC M)[k * 6 + j]? = some c := ⟨_, List.getElem?_eq_getElem (by omega)⟩
    obtain ⟨g', cap', x, e1, -, e2, e3, -⟩ := h.shape hc
    simp only [Value.slice.injEq, Option.some.injEq, Addr.mk.injEq] at e1
    obtain ⟨⟨rfl, -, -⟩, -, -⟩ := e1
    exact ⟨x, e2, e3⟩
  · obtain ⟨o0, c0⟩ := h.setP (k := k * 6) (by omega) (.int .i64 a0)
    obtain ⟨o1, c1⟩ := o0.setP (k := k * 6 + 1) (by simp; omega) (.int .i64 a1)
    obtain ⟨o2, c2⟩ := o1.setP (k := k * 6 + 2) (by simp; omega) (.int .i64 a2)
    obtain ⟨o3, c3⟩ := o2.setP (k := k * 6 + 3) (by simp; omega) (.int .i64 a3)
    obtain ⟨o4, c4⟩ := o3.setP (k := k * 6 + 4) (by simp; omega) (.int .i64 a4)
    refine ⟨o4, (((c0.trans c1).trans c2).trans c3).trans c4, ?_, fun u hu => ?_⟩
    · rw [List.getElem?_set_ne (by omega), List.getElem?_set_ne (by omega), List.getElem?_set_ne (by omega), List.getElem?_set_ne (by omega), List.getElem?_set_ne (by omega), infC_get hk (by omega)]
      rfl
    · rw [World.cell?_setCell_other _ _ _ _ (by simp), World.cell?_setCell_other _ _ _ _ (by simp), World.cell?_setCell_other _ _ _ _ (by simp), World.cell?_setCell_other _ _ _ _ (by simp), World.cell?_setCell_other _ _ _ _ (by simp)] at hu
      exact hu
set_option maxHeartbeats 400000 in
theorem markInfs_any {v : Value} {L : List (List Int)} {S : Nat → Prop} {c : Int} {w : World} (h : OwC 81 6 w S v L.length (infC L)) (hS : ∀ b, S b → b < w.heap.size) (h5 : Five L) (hsz : lenSS L ≤ 67108864) (hc0 : 0 ≤ c) (hc1 : c ≤ 1000000000) :
    Calls Tryz.prog 36 #[v, .int .i64 c] w fun e w' => e = .returned (.int .i64 (c + lenSS L)) ∧ OwC 81 6 w' S v L.length (infC (markSS c L)) ∧ ChgS S w w' := by
  obtain ⟨A, cap, rfl, hl, hm, -⟩ := h.sl hS
  unfold maxLen at hm
  have H5 := Lib.hid h5
  have HS := Lib.hid hS
  clear h5 hS
  go_enter Tryz.func36, Tryz.ntmps36
  go_wp2
  go_loopw [1, 5] (fun x i wr => ∃ k : Nat, k ≤ L.length ∧ i = .int .i64 k ∧ x = .int .i64 (c + lenSS (L.take k)) ∧ OwC 81 6 wr S (.slice A L.length cap) L.length (infC (markedSS c L k)) ∧ ChgS S w wr) (fun _ i _ => L.length - (intOf i).toNat)
  case atStart => exact ⟨0, Nat.zero_le _, rfl, by simp [lenSS], by rw [markedSS_zero]; exact h, ChgS.refl _ _⟩
  case round =>
    obtain ⟨k, hk, rfl, rfl, hO, hb⟩ := hrel
    by_cases hlt : k < L.length
    · have hlm := markedSS_len c L k hk
      obtain ⟨x, hx⟩ : ∃ x, (infC (markedSS c L k))[k * 6]? = some x := ⟨_, List.getElem?_eq_getElem (by rw [infC_len, hlm]; omega)⟩
      obtain ⟨g, cap', u0', hv, -, -, -, -⟩ := hO.shape hx
      obtain ⟨rfl, rfl⟩ : A = some ⟨g, 0, none⟩ ∧ cap = cap' := by injection hv with h1 h2 h3; exact ⟨h1, h3⟩
      have hg5 := H5.out _ (gl_mem hlt)
      have HL := Lib.hid (lenSS_take hlt)
      have hrow := lenSS_row hlt
      have HSET := Lib.hid (markedSS_set c L k hlt)
      have HGL := Lib.hid (markedSS_gl c L k hlt)
      have hD0 : 0 ≤ c + (lenSS (L.take k) : Int) ∧ c + (lenSS (L.take k) : Int) ≤ 1070000000 := by omega
      generalize hD : c + (lenSS (L.take k) : Int) = E at *
      obtain ⟨d0, d1⟩ := hD0
      obtain ⟨hcs, W, hW, hO3, hch, hget, hback⟩ := hO.set5 k (by rw [hlm]; exact hlt) E (E + 1) (E + 1 + 1) (E + 1 + 1 + 1) (E + 1 + 1 + 1 + 1)
      rw [HGL.out] at hget
      obtain ⟨g2, cap2, u, a, b, hv2, q1, ho, hbz, hab, hput⟩ := hO3.at_ (k * 6 + 5) _ hget fun b hb' => Nat.lt_of_lt_of_le (HS.out b hb') (hb.trans hch).size
      simp only [Value.slice.injEq, Option.some.injEq, Addr.mk.injEq] at hv2
      obtain ⟨⟨rfl, -, -⟩, -, -⟩ := hv2
      have t5 := hback u q1
      obtain ⟨x0, t0, u0⟩ := hcs 0 (by omega)
      obtain ⟨x1, t1, u1⟩ := hcs 1 (by omega)
      obtain ⟨x2, t2, u2⟩ := hcs 2 (by omega)
      obtain ⟨x3, t3, u3⟩ := hcs 3 (by omega)
      obtain ⟨x4, t4, u4⟩ := hcs 4 (by omega)
      rw [Nat.add_zero] at t0 u0
      have hdl : ((gl L k).drop 5).length = (gl L k).length - 5 := by simp
      obtain ⟨Au, cu, rfl, -⟩ := id (ho.sl (Nat.le_refl _))
      have HCF := Lib.hid (countFrom_5 E hg5)
      have HDL := Lib.hid hdl
      have hpl : ((gl L k).drop 5).length ≤ 67108864 := by omega
      generalize (gl L k).drop 5 = ps at *
      have HW := Lib.hid hW
      rw [hW] at ho
      have HCH := Lib.hid (hb.trans hch)
      have HD := Lib.hid hD
      have HP := Lib.hid hput
      have HAB := Lib.hid hab
      clear hcs hW hch hD hx hv hO hb hput hab hO3 hback hget q1 hdl hlm
      go_wp2_with fail
      refine (markInts_any _ ps a b _ _ ho hpl (by omega) (by omega)).mono ?_
      rintro e w2 ⟨rfl, ho2, hch2⟩
      have HX := Lib.hid ho2
      have HY := Lib.hid hch2
      clear ho2 hch2 t0 t1 t2 t3 t4 t5 u0 u1 u2 u3 u4 ho
      go_wp2_with fail
      go_roundw
      case rel =>
        have hch3 := HY.out
        rw [← HW.out] at hch3
        have h3 := HP.out _ w2 HX.out hch3
        simp only [Int.add_assoc, Int.reduceAdd] at h3
        have e1 : (((((((infC (markedSS c L k)).set (k * 6) (.p (.int .i64 E))).set (k * 6 + 1) (.p (.int .i64 (E + 1)))).set (k * 6 + 2) (.p (.int .i64 (E + 2)))).set (k * 6 + 3) (.p (.int .i64 (E + 3)))).set (k * 6 + 4) (.p (.int .i64 (E + 4)))).set (k * 6 + 5) (.s (countFrom (E + 5) ps.length))) = infC (markedSS c L (k + 1)) := by
          rw [infC_six (by rw [markedSS_len c L k hk]; exact hlt), HDL.out, ← HCF.out, HSET.out]
        rw [e1] at h3
        refine ⟨k + 1, by omega, by go_num, ?_, h3, HCH.out.trans ((ChgS.of_chg hch3).mono fun j hj => HAB.out j hj.1 hj.2)⟩
        rw [HL.out, ← HD.out, HDL.out]
        congr 1
        have := HD.out
        push_cast
        omega
      case measure => simp [intOf]; omega
    · obtain rfl : k = L.length := by omega
      rw [markedSS_all] at hO
      rw [List.take_length]
      go_wp2
      go_ret
      exact ⟨rfl, hO, hb⟩
end Go.Proofs.YtbefioljddhhpaaGreat
/-
  Contracts: the laws' tests of marks on descriptions of loops.
-/
namespace Go.Proofs.YtbefioljddhhpaaGreat
set_option maxRecDepth 10000
open Go.RowKit

set_option maxHeartbeats 200000 in
theorem heldInfs_any {v : Value} {L : List (List Int)} {B : Nat} {c : Int} {w : World} (h : SlF w B v (markSS c L)) (h5 : Five L) (hsz : lenSS L ≤ 67108864) (hc0 : 0 ≤ c) (hc1 : c ≤ 1000000000) :
    Calls Tryz.prog 40 #[v, .int .i64 c] w fun e w' => e = .returned (.int .i64 (c + lenSS L)) ∧ Below w.heap.size w w' := by
  obtain ⟨A, cap, rfl, hl, hm, hcell⟩ := h.cells
  rw [markSS_len] at hl hcell ⊢
  have HC := Lib.hid hcell
  have H5 := Lib.hid h5
  clear hcell h5 h
  go_enter Tryz.func40, Tryz.ntmps40
  go_wp2
  go_loopw [1, 5] (fun x i wr => ∃ k : Nat, k ≤ L.length ∧ i = .int .i64 k ∧ x = .int .i64 (c + lenSS (L.take k)) ∧ wr = w) (fun _ i _ => L.length - (intOf i).toNat)
  case atStart => exact ⟨0, Nat.zero_le _, rfl, by simp [lenSS], rfl⟩
  case round =>
    obtain ⟨k, hk, rfl, rfl, rfl⟩ := hrel
    by_cases hlt : k < L.length
    · obtain ⟨b, off, rfl, hbB, hcell⟩ := HC.out (by omega)
      obtain ⟨hn, u, q5, s5⟩ := hcell k hlt
      obtain ⟨q0, q1, q2, q3, q4⟩ := five_of hn
      have hg5 := H5.out _ (gl_mem hlt)
      have HL := Lib.hid (lenSS_take hlt)
      have hrow := lenSS_row hlt
      rw [markSS_gl c L k hlt] at q0 q1 q2 q3 q4 s5
      have hD0 : 0 ≤ c + (lenSS (L.take k) : Int) ∧ c + (lenSS (L.take k) : Int) ≤ 1070000000 := by omega
      generalize hD : c + (lenSS (L.take k) : Int) = E at *
      obtain ⟨d0, d1⟩ := hD0
      rw [countFrom_5 E hg5] at q0 q1 q2 q3 q4 s5
      obtain ⟨m, hm5⟩ : ∃ m, (gl L k).length = m + 5 := ⟨(gl L k).length - 5, by omega⟩
      rw [show (gl L k).length - 5 = m by omega] at q0 q1 q2 q3 q4 s5
      have q0' : wr.cell? ⟨b, off + k * 6, none⟩ = some (.int .i64 E) := q0
      have q1' : wr.cell? ⟨b, off + k * 6 + 1, none⟩ = some (.int .i64 (E + 1)) := q1
      have q2' : wr.cell? ⟨b, off + k * 6 + 2, none⟩ = some (.int .i64 (E + 2)) := q2
      have q3' : wr.cell? ⟨b, off + k * 6 + 3, none⟩ = some (.int .i64 (E + 3)) := q3
      have q4' : wr.cell? ⟨b, off + k * 6 + 4, none⟩ = some (.int .i64 (E + 4)) := q4
      have s5' : Sl wr B u (countFrom (E + 5) m) := s5
      have HD := Lib.hid hD
      have HM := Lib.hid hm5
      have hme : m ≤ 67108864 := by omega
      have hpos : ¬ E + 5 + (m : Int) < 0 := by omega
      clear hcell hn hD q0 q1 q2 q3 q4 s5 hm5 hg5 hrow
      go_wp2_with (go_at_call 41; simp only [Int.add_assoc, Int.reduceAdd]; refine (heldInts_any _ m _ _ _ s5' (by omega) (by omega) (by omega)).mono ?_; rintro e w' ⟨rfl, rfl⟩)
      go_roundw
      case rel => exact ⟨k + 1, by omega, by go_num, by rw [HL.out, HM.out]; have := HD.out; congr 1; push_cast; omega, trivial⟩
      case measure => simp [intOf]; omega
    · obtain rfl : k = L.length := by omega
      rw [List.take_length]
      go_wp2
      go_ret
      exact ⟨rfl, Below.refl _ _⟩
end Go.Proofs.YtbefioljddhhpaaGreat
/-
  Machines in memory: what they read as (Mac), to read (SlM), of the call's own (OwM, the item mac_); boxes of seven cells.
-/
namespace Go.Proofs.YtbefioljddhhpaaGreat
set_option maxRecDepth 10000
open Go.RowKit

structure Mac where
  wd : Int
  rk : Int
  fr : List (List Int)
  bk : List (List Int)
  cr : List (Bool × Int)
  lp : List (List Int)
  dr : List Int
/-- The five slices read as the machine's parts; all blocks lie below B. -/
structure SlM (w : World) (B : Nat) (f b c l d : Value) (m : Mac) : Prop where
  fr : SlS w B f m.fr
  bk : SlS w B b m.bk
  cr : SlK w B c m.cr
  lp : SlF w B l m.lp
  dr : Sl w B d m.dr
theorem SlM.keep {w w' : World} {B : Nat} {f b c l d : Value} {m : Mac} (h : SlM w B f b c l d m) (hk : ∀ p : Addr, p.block < B → w'.cell? p = w.cell? p) : SlM w' B f b c l d m :=
  ⟨h.fr.keep hk, h.bk.keep hk, SlC.keep h.cr hk, SlC.keep h.lp hk, Sl.keep h.dr hk⟩
theorem SlM.below {w w' : World} {B B' : Nat} {f b c l d : Value} {m : Mac} (h : SlM w B f b c l d m) (hb : Below B' w w') (hB : B ≤ B') : SlM w' B f b c l d m := h.keep fun _ hp => hb.cell (by omega)
theorem SlM.mono {w : World} {B B' : Nat} {f b c l d : Value} {m : Mac} (h : SlM w B f b c l d m) (hB : B ≤ B') : SlM w B' f b c l d m :=
  ⟨h.fr.mono hB, h.bk.mono hB, SlC.mono h.cr hB, SlC.mono h.lp hB, Sl.mono h.dr hB⟩
/-- The five parts are of the call's own, each in blocks apart from the others'. -/
structure OwP (w : World) (S : Nat → Prop) (tag : Nat → Nat) (f b c l d : Value) (m : Mac) : Prop where
  fr : OwS w (fun k => S k ∧ tag k = 0) f m.fr
  bk : OwS w (fun k => S k ∧ tag k = 1) b m.bk
  cr : OwC 78 2 w (fun k => S k ∧ tag k = 2) c m.cr.length (carC m.cr)
  lp : OwC 81 6 w (fun k => S k ∧ tag k = 3) l m.lp.length (infC m.lp)
  dr : (rw_ d m.dr).p w (fun k => S k ∧ tag k = 4)
def OwM (w : World) (S : Nat → Prop) (f b c l d : Value) (m : Mac) : Prop := ∃ tag, OwP w S tag f b c l d m
theorem OwP.keep {w w' : World} {S : Nat → Prop} {tag : Nat → Nat} {f b c l d : Value} {m : Mac} (h : OwP w S tag f b c l d m) (hk : ∀ k, S k → w'.heap[k]? = w.heap[k]?) : OwP w' S tag f b c l d m :=
  ⟨h.fr.keep fun k q => hk k q.1, h.bk.keep fun k q => hk k q.1, h.cr.keep fun k q => hk k q.1, h.lp.keep fun k q => hk k q.1, (rw_ d m.dr).keep h.dr fun k q => hk k q.1⟩
theorem OwM.keep {w w' : World} {S : Nat → Prop} {f b c l d : Value} {m : Mac} (h : OwM w S f b c l d m) (hk : ∀ k, S k → w'.heap[k]? = w.heap[k]?) : OwM w' S f b c l d m := by
  obtain ⟨tag, h⟩ := h
  exact ⟨tag, h.keep hk⟩
def mac_ (f b c l d : Value) (m : Mac) : Itm := ⟨fun w S => OwM w S f b c l d m, fun h hk => h.keep hk⟩
theorem rw_mono {w : World} {S S' : Nat → Prop} {v : Value} {xs : List Int} (h : (rw_ v xs).p w S) (hs : ∀ k, S k → S' k) : (rw_ v xs).p w S' := ⟨h.1, fun g hg => hs g (h.2 g hg)⟩
theorem OwM.mono {w : World} {S S' : Nat → Prop} {f b c l d : Value} {m : Mac} (h : OwM w S f b c l d m) (hs : ∀ k, S k → S' k) : OwM w S' f b c l d m := by
  obtain ⟨tag, h⟩ := h
  exact ⟨tag, h.fr.mono fun k q => ⟨hs k q.1, q.2⟩, h.bk.mono fun k q => ⟨hs k q.1, q.2⟩, h.cr.mono fun k q => ⟨hs k q.1, q.2⟩, h.lp.mono fun k q => ⟨hs k q.1, q.2⟩, rw_mono h.dr fun k q => ⟨hs k q.1, q.2⟩⟩
theorem rw_sl {w : World} {S : Nat → Prop} {B : Nat} {v : Value} {xs : List Int} (h : (rw_ v xs).p w S) (hB : ∀ k, S k → k < B) : Sl w B v xs := by
  obtain ⟨a, b, ho, hab, hS⟩ := ow_of_rw h
  rcases hab with h1 | h1
  · exact ho.sl (by omega)
  · exact ho.sl (by have := hB (b - 1) (hS _ (by omega) (by omega)); omega)
theorem OwM.sl {w : World} {S : Nat → Prop} {B : Nat} {f b c l d : Value} {m : Mac} (h : OwM w S f b c l d m) (hB : ∀ k, S k → k < B) : SlM w B f b c l d m := by
  obtain ⟨tag, h⟩ := h
  exact ⟨h.fr.sl fun k q => hB k q.1, h.bk.sl fun k q => hB k q.1, h.cr.sl fun k q => hB k q.1, h.lp.sl fun k q => hB k q.1, rw_sl h.dr fun k q => hB k q.1⟩
theorem Hs.rdM {w : World} {lo : Nat} (L1 : List Itm) {f b c l d : Value} {m : Mac} (L2 : List Itm) (h : Hs w lo (L1 ++ mac_ f b c l d m :: L2)) : SlM w w.heap.size f b c l d m := by
  obtain ⟨S, hp, c, _⟩ := h.at_ L1 (mac_ f b c l d m) L2
  exact OwM.sl hp fun k q => (c k q).2
/-- Five things are one machine. -/
theorem Hs.mac {w : World} {lo : Nat} {f b c l d : Value} {m : Mac} (h : Hs w lo [rws_ f m.fr, rws_ b m.bk, rc_ 78 2 c m.cr.length (carC m.cr), rc_ 81 6 l m.lp.length (infC m.lp), rw_ d m.dr]) : Hs w lo [mac_ f b c l d m] := by
  obtain ⟨h0, own, h1⟩ := h
  refine ⟨h0, fun k => if own k < 5 then 0 else 1, fun k t e => ?_⟩
  obtain rfl : k = 0 := by
    have := (List.getElem?_eq_some_iff.1 e).1
    simp at this; exact this
  simp at e
  subst e
  have hs : ∀ k, (if own k < 5 then 0 else 1) = 0 ↔ own k < 5 := fun k => by split <;> simp_all
  refine ⟨⟨own, (h1 0 _ rfl).1.mono fun k q => ⟨(hs k).2 (by omega), q⟩, (h1 1 _ rfl).1.mono fun k q => ⟨(hs k).2 (by omega), q⟩, (h1 2 _ rfl).1.mono fun k q => ⟨(hs k).2 (by omega), q⟩, (h1 3 _ rfl).1.mono fun k q => ⟨(hs k).2 (by omega), q⟩, rw_mono (h1 4 _ rfl).1 fun k q => ⟨(hs k).2 (by omega), q⟩⟩, fun k q => ?_⟩
  have := (hs k).1 q
  match hk : own k, this with
  | 0, _ => exact (h1 0 _ rfl).2 k hk
  | 1, _ => exact (h1 1 _ rfl).2 k hk
  | 2, _ => exact (h1 2 _ rfl).2 k hk
  | 3, _ => exact (h1 3 _ rfl).2 k hk
  | 4, _ => exact (h1 4 _ rfl).2 k hk
/-- A machine is five things. -/
theorem OwM.hs {w w' : World} {f b c l d : Value} {m : Mac} (hb : Below w.heap.size w w') (h : OwM w' (Iv w.heap.size w'.heap.size) f b c l d m) : Hs w' w.heap.size [mac_ f b c l d m] :=
  Hs.one (t := mac_ f b c l d m) hb.size h fun _ q => q
/-- Boxes of seven cells. -/
theorem box7_set {w : World} {g : Nat} {b0 b1 b2 b3 b4 b5 b6 : Value} {t : TypeId} (a0 a1 a2 a3 a4 a5 a6 : Value) (hx : w.heap[g]? = some (.cells #[b0, b1, b2, b3, b4, b5, b6] t)) :
    let W := ((((((w.setCell ⟨g, 0, none⟩ a0).setCell ⟨g, 1, none⟩ a1).setCell ⟨g, 2, none⟩ a2).setCell ⟨g, 3, none⟩ a3).setCell ⟨g, 4, none⟩ a4).setCell ⟨g, 5, none⟩ a5).setCell ⟨g, 6, none⟩ a6
    W.heap[g]? = some (.cells #[a0, a1, a2, a3, a4, a5, a6] t) ∧ (∀ j, j ≠ g → W.heap[j]? = w.heap[j]?) ∧ W.heap.size = w.heap.size ∧ ∀ B, B ≤ g → Below B w W := by
  intro W
  refine ⟨?_, fun j hj => ?_, by simp [W, World.setCell], fun B hB => setB hB (setB hB (setB hB (setB hB (setB hB (setB hB (setB hB (Below.refl _ _)))))))⟩
  · have s0 : (w.setCell ⟨g, 0, none⟩ a0).heap[g]? = some (.cells #[a0, b1, b2, b3, b4, b5, b6] t) := heap_setCell_at (k := 0) a0 hx
    have s1 : ((w.setCell ⟨g, 0, none⟩ a0).setCell ⟨g, 1, none⟩ a1).heap[g]? = some (.cells #[a0, a1, b2, b3, b4, b5, b6] t) := heap_setCell_at (k := 1) a1 s0
    have s2 : (((w.setCell ⟨g, 0, none⟩ a0).setCell ⟨g, 1, none⟩ a1).setCell ⟨g, 2, none⟩ a2).heap[g]? = some (.cells #[a0, a1, a2, b3, b4, b5, b6] t) := heap_setCell_at (k := 2) a2 s1
    have s3 : ((((w.setCell ⟨g, 0, none⟩ a0).setCell ⟨g, 1, none⟩ a1).setCell ⟨g, 2, none⟩ a2).setCell ⟨g, 3, none⟩ a3).heap[g]? = some (.cells #[a0, a1, a2, a3, b4, b5, b6] t) := heap_setCell_at (k := 3) a3 s2
    have s4 : (((((w.setCell ⟨g, 0, none⟩ a0).setCell ⟨g, 1, none⟩ a1).setCell ⟨g, 2, none⟩ a2).setCell ⟨g, 3, none⟩ a3).setCell ⟨g, 4, none⟩ a4).heap[g]? = some (.cells #[a0, a1, a2, a3, a4, b5, b6] t) := heap_setCell_at (k := 4) a4 s3
    have s5 : ((((((w.setCell ⟨g, 0, none⟩ a0).setCell ⟨g, 1, none⟩ a1).setCell ⟨g, 2, none⟩ a2).setCell ⟨g, 3, none⟩ a3).setCell ⟨g, 4, none⟩ a4).setCell ⟨g, 5, none⟩ a5).heap[g]? = some (.cells #[a0, a1, a2, a3, a4, a5, b6] t) := heap_setCell_at (k := 5) a5 s4
    have s6 : (((((((w.setCell ⟨g, 0, none⟩ a0).setCell ⟨g, 1, none⟩ a1).setCell ⟨g, 2, none⟩ a2).setCell ⟨g, 3, none⟩ a3).setCell ⟨g, 4, none⟩ a4).setCell ⟨g, 5, none⟩ a5).setCell ⟨g, 6, none⟩ a6).heap[g]? = some (.cells #[a0, a1, a2, a3, a4, a5, a6] t) := heap_setCell_at (k := 6) a6 s5
    exact s6
  · simp only [W]
    rw [Below.heap_setCell _ _ _ _ hj, Below.heap_setCell _ _ _ _ hj, Below.heap_setCell _ _ _ _ hj, Below.heap_setCell _ _ _ _ hj, Below.heap_setCell _ _ _ _ hj, Below.heap_setCell _ _ _ _ hj, Below.heap_setCell _ _ _ _ hj]
theorem box7 {w : World} {g : Nat} {a b c d e f h : Value} {t : TypeId} (hx : w.heap[g]? = some (.cells #[a, b, c, d, e, f, h] t)) :
    (w.cell? ⟨g, 0, none⟩ = some a ∧ w.cell? ⟨g, 1, none⟩ = some b ∧ w.cell? ⟨g, 2, none⟩ = some c ∧ w.cell? ⟨g, 3, none⟩ = some d ∧ w.cell? ⟨g, 4, none⟩ = some e ∧ w.cell? ⟨g, 5, none⟩ = some f ∧ w.cell? ⟨g, 6, none⟩ = some h) ∧ (∀ k, w.frozen? ⟨g, k, none⟩ = false) ∧ g < w.heap.size :=
  ⟨⟨cell_of_row w g 0 _ t (0, 0) hx, cell_of_row w g 1 _ t (0, 0) hx, cell_of_row w g 2 _ t (0, 0) hx, cell_of_row w g 3 _ t (0, 0) hx, cell_of_row w g 4 _ t (0, 0) hx, cell_of_row w g 5 _ t (0, 0) hx, cell_of_row w g 6 _ t (0, 0) hx⟩, fun k => by simp only [World.frozen?, hx]; simp, heap_lt hx⟩
/-- The marks of a machine. -/
def Mac.size (m : Mac) : Nat := (m.fr.length + lenSS m.fr) + (m.bk.length + lenSS m.bk) + m.cr.length + (m.lp.length + lenSS (prs m.lp)) + m.dr.length
def Mac.marks (m : Mac) : Nat := lenSS m.fr + lenSS m.bk + 2 * m.cr.length + lenSS m.lp + m.dr.length
def Mac.mark (c : Int) (m : Mac) : Mac := ⟨m.wd, m.rk, markSS c m.fr, markSS (c + lenSS m.fr) m.bk, markK (c + lenSS m.fr + lenSS m.bk) m.cr.length, markSS (c + lenSS m.fr + lenSS m.bk + 2 * m.cr.length) m.lp, countFrom (c + lenSS m.fr + lenSS m.bk + 2 * m.cr.length + lenSS m.lp) m.dr.length⟩
end Go.Proofs.YtbefioljddhhpaaGreat
