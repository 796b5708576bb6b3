/-
  Rows in memory whose cells are plain values or rows of int64 (OwC, SlC, the item rc_): for descriptions of loops and for carriers.
-/
import Derived.Test.YtgmppfhokfifgaaGreatDoorSs2
import Derived.Lib.QuietBelow
namespace Go.Proofs.YtgmppfhokfifgaaGreatDoor
set_option maxRecDepth 10000
open Go.RowKit

/-- A cell of a row: a plain value, or a row of int64. -/
inductive Cl where
  | p (x : Value)
  | s (xs : List Int)
def ClR (w : World) (B : Nat) : Cl → Value → Prop
  | .p x, u => u = x
  | .s xs, u => Sl w B u xs
def ClO (w : World) (S : Nat → Prop) : Cl → Value → Prop
  | .p x, u => u = x
  | .s xs, u => (rw_ u xs).p w S
theorem ClO.keep {w w' : World} {S : Nat → Prop} {c : Cl} {u : Value} (h : ClO w S c u) (hk : ∀ k, S k → w'.heap[k]? = w.heap[k]?) : ClO w' S c u := by
  cases c with
  | p x => exact h
  | s xs => exact (rw_ u xs).keep h hk
theorem ClO.iff {w : World} {S S' : Nat → Prop} {c : Cl} {u : Value} (h : ClO w S c u) (hk : ∀ k, S k → S' k) : ClO w S' c u := by
  cases c with
  | p x => exact h
  | s xs => exact ⟨h.1, fun g hg => hk g (h.2 g hg)⟩
theorem ClR.keep {w w' : World} {B : Nat} {c : Cl} {u : Value} (h : ClR w B c u) (hk : ∀ p : Addr, p.block < B → w'.cell? p = w.cell? p) : ClR w' B c u := by
  cases c with
  | p x => exact h
  | s xs => exact Sl.keep h hk
theorem ClR.mono {w : World} {B B' : Nat} {c : Cl} {u : Value} (h : ClR w B c u) (hB : B ≤ B') : ClR w B' c u := by
  cases c with
  | p x => exact h
  | s xs => exact Sl.mono h hB
/-- The slice value v reads as n elements of z cells each; all blocks lie below B. -/
def SlC (z : Nat) (w : World) (B : Nat) (v : Value) (n : Nat) (cs : List Cl) : Prop :=
  ∃ A c, v = .slice A n c ∧ n ≤ c ∧ c ≤ maxLen ∧ (cs.length = n * z ∧ (A = none → c = 0)) ∧
    (0 < n → ∃ b off, A = some ⟨b, off, none⟩ ∧ b < B ∧ ∀ k c, cs[k]? = some c → ∃ u, w.cell? ⟨b, off + k, none⟩ = some u ∧ ClR w B c u)
theorem SlC.keep {z : Nat} {w w' : World} {B : Nat} {v : Value} {n : Nat} {cs : List Cl} (h : SlC z w B v n cs) (hk : ∀ p : Addr, p.block < B → w'.cell? p = w.cell? p) : SlC z w' B v n cs := by
  obtain ⟨A, c, h1, h2, h3, h4, h5⟩ := h
  refine ⟨A, c, h1, h2, h3, h4, fun hp => ?_⟩
  obtain ⟨b, off, e, hb, hc⟩ := h5 hp
  refine ⟨b, off, e, hb, fun k x hx => ?_⟩
  obtain ⟨u, hu, hs⟩ := hc k x hx
  exact ⟨u, by rw [hk _ hb]; exact hu, hs.keep hk⟩
theorem SlC.below {z : Nat} {w w' : World} {B B' : Nat} {v : Value} {n : Nat} {cs : List Cl} (h : SlC z w B v n cs) (hb : Below B' w w') (hB : B ≤ B') : SlC z w' B v n cs := h.keep fun _ hp => hb.cell (by omega)
theorem SlC.mono {z : Nat} {w : World} {B B' : Nat} {v : Value} {n : Nat} {cs : List Cl} (h : SlC z w B v n cs) (hB : B ≤ B') : SlC z w B' v n cs := by
  obtain ⟨A, c, h1, h2, h3, h4, h5⟩ := h
  refine ⟨A, c, h1, h2, h3, h4, fun hp => ?_⟩
  obtain ⟨b, off, e, hb, hc⟩ := h5 hp
  refine ⟨b, off, e, by omega, fun k x hx => ?_⟩
  obtain ⟨u, hu, hs⟩ := hc k x hx
  exact ⟨u, hu, hs.mono hB⟩
theorem SlC.drewN {z : Nat} {w : World} {B : Nat} {v : Value} {n : Nat} {cs : List Cl} (h : SlC z w B v n cs) (m : Nat) : SlC z (w.drewN m) B v n cs := h
theorem SlC.nil (z : Nat) (w : World) (B : Nat) : SlC z w B (.slice none 0 0) 0 [] := ⟨none, 0, rfl, Nat.le_refl _, by simp [maxLen], ⟨by simp, fun _ => rfl⟩, fun h => absurd h (by simp)⟩
/-- Such a row of the call's own; the blocks of its rows lie in S, each apart from the others. -/
def OwC (e : TypeId) (z : Nat) (w : World) (S : Nat → Prop) (v : Value) (n : Nat) (cs : List Cl) : Prop :=
  ∃ (vs : List Value) (tag : Nat → Nat), w.ownsRow 0 e z v n vs ∧ (∀ g, v.ownBlock = some g → S g ∧ tag g = 0) ∧ (vs.length = cs.length ∧ cs.length = n * z) ∧
    ∀ k u c, vs[k]? = some u → cs[k]? = some c → ClO w (fun b => S b ∧ tag b = k + 1) c u
theorem OwC.keep {e : TypeId} {z : Nat} {w w' : World} {S : Nat → Prop} {v : Value} {n : Nat} {cs : List Cl} (h : OwC e z w S v n cs) (hk : ∀ k, S k → w'.heap[k]? = w.heap[k]?) : OwC e z w' S v n cs := by
  obtain ⟨vs, tag, h1, h2, h3, h4⟩ := h
  exact ⟨vs, tag, ownsRow_keep h1 fun g hg => hk g (h2 g hg).1, h2, h3, fun k u c hu hc => (h4 k u c hu hc).keep fun b hb => hk b hb.1⟩
theorem OwC.mono {e : TypeId} {z : Nat} {w : World} {S S' : Nat → Prop} {v : Value} {n : Nat} {cs : List Cl} (h : OwC e z w S v n cs) (hs : ∀ k, S k → S' k) : OwC e z w S' v n cs := by
  obtain ⟨vs, tag, h1, h2, h3, h4⟩ := h
  exact ⟨vs, tag, h1, fun g hg => ⟨hs g (h2 g hg).1, (h2 g hg).2⟩, h3, fun k u c hu hc => (h4 k u c hu hc).iff fun b hb => ⟨hs b hb.1, hb.2⟩⟩
def rc_ (e : TypeId) (z : Nat) (v : Value) (n : Nat) (cs : List Cl) : Itm := ⟨fun w S => OwC e z w S v n cs, fun h hk => h.keep hk⟩
theorem OwC.below {e : TypeId} {z : Nat} {w w' : World} {B lo hi : Nat} {v : Value} {n : Nat} {cs : List Cl} (h : OwC e z w (Iv lo hi) v n cs) (hb : Below B w w') (hB : hi ≤ B) : OwC e z w' (Iv lo hi) v n cs :=
  h.keep fun k hk => hb.block k (by have := hk.2; omega)
theorem OwC.sl {e : TypeId} {z : Nat} {w : World} {S : Nat → Prop} {B : Nat} {v : Value} {n : Nat} {cs : List Cl} (h : OwC e z w S v n cs) (hB : ∀ b, S b → b < B) : SlC z w B v n cs := by
  obtain ⟨vs, tag, h1, h2, ⟨h3, h3'⟩, h4⟩ := h
  have h1' := h1
  rcases h1.2 with ⟨rfl, h0⟩ | ⟨g, cap, cur, rfl, hlo, hh, hn, hcap, hsz, htake⟩
  · subst h0
    rw [show cs = [] from List.eq_nil_of_length_eq_zero (by omega)]
    exact SlC.nil z w B
  · refine ⟨_, cap, rfl, hn, hcap, ⟨h3', by simp⟩, fun hp => ⟨g, 0, rfl, hB g (h2 g rfl).1, fun k c hc => ?_⟩⟩
    have hk : k < cs.length := (List.getElem?_eq_some_iff.1 hc).1
    obtain ⟨u, hu⟩ : ∃ u, vs[k]? = some u := ⟨vs[k], List.getElem?_eq_getElem (by omega)⟩
    refine ⟨u, ?_, ?_⟩
    · rw [Nat.zero_add, h1'.cellAt k (by omega), hu]
    · have h5 := h4 k u c hu hc
      cases c with
      | p x => exact h5
      | s xs =>
        obtain ⟨a, b, ho, hab, hS⟩ := ow_of_rw h5
        rcases hab with h6 | h6
        · exact ho.sl (by omega)
        · exact ho.sl (by have := hB _ (hS (b - 1) (by omega) (by omega)).1; omega)
theorem OwC.nil (e : TypeId) (z : Nat) (w : World) (S : Nat → Prop) : OwC e z w S (.slice none 0 0) 0 [] := ⟨[], fun _ => 0, World.ownsRow_nil w 0 _ z, by simp [Value.ownBlock], by simp, fun k u c h => by simp at h⟩
theorem hs_owc {e : TypeId} {z : Nat} {w w' : World} {v : Value} {n : Nat} {cs : List Cl} (h : OwC e z w' (Iv w.heap.size w'.heap.size) v n cs) (hb : Below w.heap.size w w') : Hs w' w.heap.size [rc_ e z v n cs] :=
  Hs.one (t := rc_ e z v n cs) hb.size h fun _ hk => hk
/-- The shape of such a row, and a cell. -/
theorem OwC.shape {e : TypeId} {z : Nat} {w : World} {S : Nat → Prop} {v : Value} {n : Nat} {cs : List Cl} (h : OwC e z w S v n cs) {k : Nat} {c : Cl} (hc : cs[k]? = some c) :
    ∃ g cap u, v = .slice (some ⟨g, 0, none⟩) n cap ∧ S g ∧ w.cell? ⟨g, k, none⟩ = some u ∧ w.frozen? ⟨g, k, none⟩ = false ∧ (∀ x, c = .p x → u = x) := by
  obtain ⟨vs, tag, h1, h2, ⟨h3, h3'⟩, h4⟩ := h
  have hk : k < cs.length := (List.getElem?_eq_some_iff.1 hc).1
  have h1' := h1
  rcases h1.2 with ⟨rfl, h0⟩ | ⟨g, cap, cur, rfl, hlo, hh, hn, hcap, hsz, htake⟩
  · subst h0; omega
  · obtain ⟨u, hu⟩ : ∃ u, vs[k]? = some u := ⟨vs[k], List.getElem?_eq_getElem (by omega)⟩
    refine ⟨g, cap, u, rfl, (h2 g rfl).1, by rw [h1'.cellAt k (by omega), hu], h1'.frozenAt k, fun x hx => ?_⟩
    have := h4 k u c hu hc
    rw [hx] at this
    exact this
/-- A plain store into a plain cell. -/
theorem OwC.setP {e : TypeId} {z : Nat} {w : World} {S : Nat → Prop} {g n cap : Nat} {cs : List Cl} (h : OwC e z w S (.slice (some ⟨g, 0, none⟩) n cap) n cs) {k : Nat} (hk : k < cs.length) (x : Value) :
    OwC e z (w.setCell ⟨g, k, none⟩ x) S (.slice (some ⟨g, 0, none⟩) n cap) n (cs.set k (.p x)) ∧ ChgS S w (w.setCell ⟨g, k, none⟩ x) := by
  obtain ⟨vs, tag, h1, h2, ⟨h3, h3'⟩, h4⟩ := h
  have hg := h2 g rfl
  have hs := h1.stored k x
  refine ⟨⟨vs.set k x, tag, hs.1, h2, ⟨by simp [h3], by simpa using h3'⟩, fun j u c hu hc => ?_⟩, rfl, rfl, rfl, by simp [World.setCell], fun j _ hj2 => Below.heap_setCell _ _ _ _ fun e => hj2 (by rw [e]; exact hg.1)⟩
  by_cases hjk : j = k
  · subst hjk
    rw [List.getElem?_set_self (by omega)] at hu hc
    injection hu with hu
    injection hc with hc
    subst hu hc
    rfl
  · rw [List.getElem?_set_ne (by omega)] at hu hc
    refine (h4 j u c hu hc).keep fun b hb => Below.heap_setCell _ _ _ _ fun e => ?_
    simp only at e
    have := hb.2
    rw [e] at this
    have := hg.2
    omega
/-- One of the rows inside; another may be put into its place. -/
theorem OwC.at_ {e : TypeId} {z : Nat} {w : World} {S : Nat → Prop} {v : Value} {n : Nat} {cs : List Cl} (h : OwC e z w S v n cs) (k : Nat) (xs : List Int) (hk : cs[k]? = some (.s xs)) (hS : ∀ b, S b → b < w.heap.size) :
    ∃ g cap u a b, v = .slice (some ⟨g, 0, none⟩) n cap ∧ w.cell? ⟨g, k, none⟩ = some u ∧ Ow w a b u xs ∧ b ≤ w.heap.size ∧ (∀ j, a ≤ j → j < b → S j) ∧
      ∀ (ys : List Int) (w' : World), Ow w' a b u ys → Chg a b w w' → OwC e z w' S v n (cs.set k (.s ys)) := by
  obtain ⟨vs, tag, h1, h2, ⟨h3, h3'⟩, h4⟩ := h
  have hkl : k < cs.length := (List.getElem?_eq_some_iff.1 hk).1
  have h1' := h1
  rcases h1.2 with ⟨rfl, h0⟩ | ⟨g, cap, cur, rfl, hlo, hh, hn, hcap, hsz, htake⟩
  · subst h0; omega
  · obtain ⟨u, hu⟩ : ∃ u, vs[k]? = some u := ⟨vs[k], List.getElem?_eq_getElem (by omega)⟩
    obtain ⟨a, b, ho, hab, hSj⟩ := ow_of_rw (show (rw_ u xs).p w _ from h4 k u _ hu hk)
    have hb : b ≤ w.heap.size := by
      rcases hab with h5 | h5
      · omega
      · have := hS _ (hSj (b - 1) (by omega) (by omega)).1; omega
    refine ⟨g, cap, u, a, b, rfl, by rw [h1'.cellAt k (by omega), hu], ho, hb, fun j h5 h6 => (hSj j h5 h6).1, fun ys w' ho' hc => ?_⟩
    have hg := h2 g rfl
    have hgo : ¬ (a ≤ g ∧ g < b) := fun hc => by have := (hSj g hc.1 hc.2).2; omega
    refine ⟨vs, tag, ?_, h2, ⟨by simp [h3], by simpa using h3'⟩, fun j x c hx hc' => ?_⟩
    · exact ownsRow_keep h1' fun g' hg' => by simp [Value.ownBlock] at hg'; subst hg'; exact hc.block g (hS g hg.1) (by omega)
    · by_cases hjk : j = k
      · subst hjk
        rw [hu] at hx
        injection hx with hx
        subst hx
        rw [List.getElem?_set_self hkl] at hc'
        injection hc' with hc'
        subst hc'
        have h5 := rw_of_ow ho'
        exact ⟨h5.1, fun g' hg' => hSj g' (h5.2 g' hg').1 (h5.2 g' hg').2⟩
      · rw [List.getElem?_set_ne (by omega)] at hc'
        have h5 := h4 j x c hx hc'
        refine h5.keep fun b' hb' => hc.block b' (hS b' hb'.1) ?_
        by_cases h6 : a ≤ b' ∧ b' < b
        · have h7 := (hSj b' h6.1 h6.2).2
          have := hb'.2
          omega
        · omega
/-- From a row whose cells are plain. -/
theorem OwC.plain {e : TypeId} {z : Nat} {w : World} {lo : Nat} {S : Nat → Prop} {v : Value} {n : Nat} {xs : List Value} (h : w.ownsRow lo e z v n xs) (hl : xs.length = n * z) (hs : ∀ g, v.ownBlock = some g → S g) : OwC e z w S v n (xs.map Cl.p) := by
  refine ⟨xs, fun _ => 0, ?_, fun g hg => ⟨hs g hg, rfl⟩, ⟨by simp, by simpa using hl⟩, fun k u c hu hc => ?_⟩
  · obtain ⟨h1, h2⟩ := h
    refine ⟨h1, ?_⟩
    rcases h2 with h2 | ⟨g, cap, cur, e, hlo, r⟩
    · exact .inl h2
    · exact .inr ⟨g, cap, cur, e, Nat.zero_le _, r⟩
  · rw [List.getElem?_map, hu] at hc
    simp at hc
    subst hc
    rfl
end Go.Proofs.YtgmppfhokfifgaaGreatDoor
/-
  Descriptions of loops (five numbers and the parents, as one list) and carriers in memory, and the laws' helpers on them.
-/
namespace Go.Proofs.YtgmppfhokfifgaaGreatDoor
set_option maxRecDepth 10000
open Go.RowKit

theorem flat_getG {α : Type} {z : Nat} {M : List (List α)} (h : ∀ r ∈ M, r.length = z) {k j : Nat} (hk : k < M.length) (hj : j < z) : M.flatten[k * z + j]? = M[k][j]? := by
  induction M generalizing k with
  | nil => simp at hk
  | cons r M ih =>
    have hr := h r (by simp)
    rw [List.flatten_cons]
    cases k with
    | zero => rw [Nat.zero_mul, Nat.zero_add, List.getElem?_append_left (by omega)]; rfl
    | succ k =>
      rw [Nat.succ_mul, List.getElem?_append_right (by omega), show k * z + z + j - r.length = k * z + j by omega]
      exact ih (fun s hs => h s (by simp [hs])) (by simpa using hk)
theorem flat_lenG {α : Type} {z : Nat} {M : List (List α)} (h : ∀ r ∈ M, r.length = z) : M.flatten.length = M.length * z := by
  induction M with
  | nil => simp
  | cons r M ih =>
    rw [List.flatten_cons, List.length_append, ih fun s hs => h s (by simp [hs]), h r (by simp), List.length_cons, Nat.succ_mul]; omega
theorem flat_setG {α : Type} {z : Nat} {M : List (List α)} (h : ∀ r ∈ M, r.length = z) {k j : Nat} (hk : k < M.length) (hj : j < z) (x : α) : M.flatten.set (k * z + j) x = (M.set k (M[k].set j x)).flatten := by
  induction M generalizing k with
  | nil => simp at hk
  | cons r M ih =>
    have hr := h r (by simp)
    rw [List.flatten_cons]
    cases k with
    | zero => rw [Nat.zero_mul, Nat.zero_add, List.set_append_left _ _ (by omega)]; rfl
    | succ k =>
      rw [Nat.succ_mul, List.set_append_right _ _ (by omega), show k * z + z + j - r.length = k * z + j by omega, ih (fun s hs => h s (by simp [hs])) (by simpa using hk)]
      rfl
/-- The cells of a description: five numbers, and the parents behind them. -/
def infC1 (o : List Int) : List Cl := [.p (.int .i64 (gi o 0)), .p (.int .i64 (gi o 1)), .p (.int .i64 (gi o 2)), .p (.int .i64 (gi o 3)), .p (.int .i64 (gi o 4)), .s (o.drop 5)]
def infC (L : List (List Int)) : List Cl := (L.map infC1).flatten
def carC1 (c : Bool × Int) : List Cl := [.p (.bool c.1), .p (.int .i64 c.2)]
def carC (C : List (Bool × Int)) : List Cl := (C.map carC1).flatten
theorem infC_6 (L : List (List Int)) : ∀ r ∈ L.map infC1, r.length = 6 := fun r hr => by obtain ⟨o, -, rfl⟩ := List.mem_map.1 hr; rfl
theorem carC_2 (C : List (Bool × Int)) : ∀ r ∈ C.map carC1, r.length = 2 := fun r hr => by obtain ⟨o, -, rfl⟩ := List.mem_map.1 hr; rfl
theorem infC_len (L : List (List Int)) : (infC L).length = L.length * 6 := by unfold infC; rw [flat_lenG (infC_6 L)]; simp
theorem carC_len (C : List (Bool × Int)) : (carC C).length = C.length * 2 := by unfold carC; rw [flat_lenG (carC_2 C)]; simp
theorem infC_get {L : List (List Int)} {k j : Nat} (hk : k < L.length) (hj : j < 6) : (infC L)[k * 6 + j]? = (infC1 (gl L k))[j]? := by
  unfold infC; rw [flat_getG (infC_6 L) (by simpa using hk) hj]; simp [gl_eq hk]
/-- Carrier k. -/
def gc (C : List (Bool × Int)) (k : Nat) : Bool × Int := C.getD k (false, 0)
theorem gc_eq {D : List (Bool × Int)} {k : Nat} (h : k < D.length) : gc D k = D[k] := by simp [gc, List.getD, h]
theorem carC_get {C : List (Bool × Int)} {k j : Nat} (hk : k < C.length) (hj : j < 2) : (carC C)[k * 2 + j]? = (carC1 (gc C k))[j]? := by
  unfold carC; rw [flat_getG (carC_2 C) (by simpa using hk) hj]; simp [gc_eq hk]
theorem carC_set {C : List (Bool × Int)} {k j : Nat} (hk : k < C.length) (hj : j < 2) {o : Bool × Int} {c : Cl} (h : (carC1 (gc C k)).set j c = carC1 o) : (carC C).set (k * 2 + j) c = carC (C.set k o) := by
  unfold carC
  rw [flat_setG (carC_2 C) (by simpa using hk) hj]
  congr 1
  rw [gc_eq hk] at h
  simp [List.map_set, h]
/-- Descriptions to read; carriers to read. -/
def SlF (w : World) (B : Nat) (v : Value) (L : List (List Int)) : Prop := SlC 6 w B v L.length (infC L)
def SlK (w : World) (B : Nat) (v : Value) (C : List (Bool × Int)) : Prop := SlC 2 w B v C.length (carC C)
theorem SlF.cells {w : World} {B : Nat} {v : Value} {L : List (List Int)} (h : SlF w B v L) : ∃ A c, v = .slice A L.length c ∧ L.length ≤ c ∧ c ≤ 9223372036854775807 ∧
    (0 < L.length → ∃ b off, A = some ⟨b, off, none⟩ ∧ b < B ∧ ∀ k, k < L.length → (∀ j, j < 5 → w.cell? ⟨b, off + k * 6 + j, none⟩ = some (.int .i64 (gi (gl L k) j))) ∧ ∃ u, w.cell? ⟨b, off + k * 6 + 5, none⟩ = some u ∧ Sl w B u ((gl L k).drop 5)) := by
  obtain ⟨A, c, h1, h2, h3, -, h5⟩ := h
  refine ⟨A, c, h1, h2, by simpa [maxLen] using h3, fun hp => ?_⟩
  obtain ⟨b, off, e, hb, hc⟩ := h5 hp
  refine ⟨b, off, e, hb, fun k hk => ⟨fun j hj => ?_, ?_⟩⟩
  · have hg := infC_get hk (show j < 6 by omega)
    have : (infC1 (gl L k))[j]? = some (.p (.int .i64 (gi (gl L k) j))) := by
      match j, hj with
      | 0, _ => rfl
      | 1, _ => rfl
      | 2, _ => rfl
      | 3, _ => rfl
      | 4, _ => rfl
    obtain ⟨u, h6, h7⟩ := hc _ _ (hg.trans this)
    simp only [ClR] at h7
    subst h7
    rw [Nat.add_assoc]; exact h6
  · obtain ⟨u, h6, h7⟩ := hc _ _ ((infC_get hk (show 5 < 6 by omega)).trans rfl)
    exact ⟨u, by rw [Nat.add_assoc]; exact h6, h7⟩
theorem SlK.cells {w : World} {B : Nat} {v : Value} {C : List (Bool × Int)} (h : SlK w B v C) : ∃ A c, v = .slice A C.length c ∧ C.length ≤ c ∧ c ≤ 9223372036854775807 ∧
    (0 < C.length → ∃ b off, A = some ⟨b, off, none⟩ ∧ b < B ∧ ∀ k, k < C.length → w.cell? ⟨b, off + k * 2, none⟩ = some (.bool (gc C k).1) ∧ w.cell? ⟨b, off + k * 2 + 1, none⟩ = some (.int .i64 (gc C k).2)) := by
  obtain ⟨A, c, h1, h2, h3, -, h5⟩ := h
  refine ⟨A, c, h1, h2, by simpa [maxLen] using h3, fun hp => ?_⟩
  obtain ⟨b, off, e, hb, hc⟩ := h5 hp
  refine ⟨b, off, e, hb, fun k hk => ⟨?_, ?_⟩⟩
  · obtain ⟨u, h6, h7⟩ := hc _ _ ((carC_get hk (show 0 < 2 by omega)).trans rfl)
    simp only [ClR] at h7
    subst h7
    exact h6
  · obtain ⟨u, h6, h7⟩ := hc _ _ ((carC_get hk (show 1 < 2 by omega)).trans rfl)
    simp only [ClR] at h7
    subst h7
    rw [Nat.add_assoc]; exact h6
/-- A carrier laid anew. -/
theorem OwC.setK {w : World} {S : Nat → Prop} {g n cap : Nat} {C : List (Bool × Int)} {e : TypeId} (h : OwC e 2 w S (.slice (some ⟨g, 0, none⟩) n cap) n (carC C)) (k : Nat) (hk : k < C.length) (a : Bool) (b : Int) :
    (∀ j, j < 2 → ∃ x, w.cell? ⟨g, k * 2 + j, none⟩ = some x ∧ w.frozen? ⟨g, k * 2 + j, none⟩ = false) ∧ ∃ W : World, W = (w.setCell ⟨g, k * 2, none⟩ (.bool a)).setCell ⟨g, k * 2 + 1, none⟩ (.int .i64 b) ∧
      OwC e 2 W S (.slice (some ⟨g, 0, none⟩) n cap) n (carC (C.set k (a, b))) ∧ ChgS S w W := by
  have hlen := carC_len C
  refine ⟨fun j hj => ?_, _, rfl, ?_⟩
  · obtain ⟨c, hc⟩ : ∃ c, (carC C)[k * 2 + j]? = some c := ⟨_, List.getElem?_eq_getElem (by omega)⟩
    obtain ⟨g', cap', x, e1, -, e2, e3, -⟩ := h.shape hc
    simp only [Value.slice.injEq, Option.some.injEq, Addr.mk.injEq] at e1
    obtain ⟨⟨rfl, -, -⟩, -, -⟩ := e1
    exact ⟨x, e2, e3⟩
  · obtain ⟨o0, c0⟩ := h.setP (k := k * 2) (by omega) (.bool a)
    obtain ⟨o1, c1⟩ := o0.setP (k := k * 2 + 1) (by simp; omega) (.int .i64 b)
    refine ⟨?_, c0.trans c1⟩
    have e1 : (carC C).set (k * 2) (.p (.bool a)) = carC (C.set k (a, (gc C k).2)) := carC_set (j := 0) hk (by omega) rfl
    rw [e1, carC_set (C := C.set k (a, (gc C k).2)) (o := (a, b)) (j := 1) (by simpa using hk) (by omega) (by rw [gc_eq (by simpa using hk)]; simp [carC1]), List.set_set] at o1
    exact o1
end Go.Proofs.YtgmppfhokfifgaaGreatDoor
/-
  Contracts: the laws' helpers on descriptions of loops and on carriers.
-/
namespace Go.Proofs.YtgmppfhokfifgaaGreatDoor
set_option maxRecDepth 10000
open Go.RowKit

theorem setB {B : Nat} {w w1 : World} {p : Addr} {x : Value} (hp : B ≤ p.block) (h : Below B w w1) : Below B w (w1.setCell p x) :=
  ⟨h.os, h.tape, h.output, by simpa [World.setCell] using h.size, fun b hb => by rw [Below.heap_setCell _ _ _ _ (by omega)]; exact h.block b hb⟩
theorem box6 {w : World} {g : Nat} {a b c d e f : Value} {t : TypeId} (h : w.heap[g]? = some (.cells #[a, b, c, d, e, f] t)) :
    (w.cell? ⟨g, 0, none⟩ = some a ∧ w.cell? ⟨g, 1, none⟩ = some b ∧ w.cell? ⟨g, 2, none⟩ = some c ∧ w.cell? ⟨g, 3, none⟩ = some d ∧ w.cell? ⟨g, 4, none⟩ = some e ∧ w.cell? ⟨g, 5, none⟩ = some f) ∧ (∀ k, w.frozen? ⟨g, k, none⟩ = false) ∧ g < w.heap.size :=
  ⟨⟨cell_of_row w g 0 _ t (0, 0) h, cell_of_row w g 1 _ t (0, 0) h, cell_of_row w g 2 _ t (0, 0) h, cell_of_row w g 3 _ t (0, 0) h, cell_of_row w g 4 _ t (0, 0) h, cell_of_row w g 5 _ t (0, 0) h⟩, fun k => by simp only [World.frozen?, h]; simp, heap_lt h⟩
def prs (L : List (List Int)) : List (List Int) := L.map fun o => o.drop 5
end Go.Proofs.YtgmppfhokfifgaaGreatDoor
/-
  Contracts: the laws' helpers on descriptions of loops and on carriers (copies, comparisons, marks).
-/
namespace Go.Proofs.YtgmppfhokfifgaaGreatDoor
set_option maxRecDepth 10000
open Go.RowKit

def Five (L : List (List Int)) : Prop := ∀ o ∈ L, 5 ≤ o.length
def z5 : List Int := [0, 0, 0, 0, 0]
def zc : List Value := [.int .i64 0, .int .i64 0, .int .i64 0, .int .i64 0, .int .i64 0, .slice none 0 0]
theorem map_flat_rep {α β : Type} (f : α → β) (n : Nat) (r : List α) : (List.replicate n r).flatten.map f = (List.replicate n (r.map f)).flatten := by
  induction n with
  | zero => simp
  | succ n ih => simp [List.replicate_succ, ih]
theorem carC_made (n : Nat) : carC (List.replicate n (false, 0)) = (List.replicate n [Value.bool false, .int .i64 0]).flatten.map Cl.p := by
  rw [map_flat_rep]; unfold carC; rw [List.map_replicate]; rfl
theorem info_info : (Tryz.prog.info? 139).map (fun i => (i.zero, i.size, i.bytes)) = some (some (.agg #[.int .i64 0, .int .i64 0, .int .i64 0, .int .i64 0, .int .i64 0, .slice none 0 0]), 6, 64) := by kernel_rfl
theorem car_info : (Tryz.prog.info? 126).map (fun i => (i.zero, i.size, i.bytes)) = some (some (.agg #[.bool false, .int .i64 0]), 2, 16) := by kernel_rfl
end Go.Proofs.YtgmppfhokfifgaaGreatDoor
/-
  Contracts: the laws' marks on descriptions of loops and on carriers.
-/
namespace Go.Proofs.YtgmppfhokfifgaaGreatDoor
set_option maxRecDepth 10000
open Go.RowKit

def markK (c : Int) (n : Nat) : List (Bool × Int) := (List.range n).map fun (i : Nat) => ((c + 2 * (i : Int)) % 3 == 0, c + 2 * (i : Int) + 1)
end Go.Proofs.YtgmppfhokfifgaaGreatDoor
/-
  Machines in memory: what they read as (Mac), to read (SlM), of the call's own (OwM, the item mac_); boxes of seven cells.
-/
namespace Go.Proofs.YtgmppfhokfifgaaGreatDoor
set_option maxRecDepth 10000
open Go.RowKit

structure Mac where
  wd : Int
  rk : Int
  fr : List (List Int)
  bk : List (List Int)
  cr : List (Bool × Int)
  lp : List (List Int)
  dr : List Int
/-- The five slices read as the machine's parts; all blocks lie below B. -/
structure SlM (w : World) (B : Nat) (f b c l d : Value) (m : Mac) : Prop where
  fr : SlS w B f m.fr
  bk : SlS w B b m.bk
  cr : SlK w B c m.cr
  lp : SlF w B l m.lp
  dr : Sl w B d m.dr
theorem SlM.keep {w w' : World} {B : Nat} {f b c l d : Value} {m : Mac} (h : SlM w B f b c l d m) (hk : ∀ p : Addr, p.block < B → w'.cell? p = w.cell? p) : SlM w' B f b c l d m :=
  ⟨h.fr.keep hk, h.bk.keep hk, SlC.keep h.cr hk, SlC.keep h.lp hk, Sl.keep h.dr hk⟩
theorem SlM.below {w w' : World} {B B' : Nat} {f b c l d : Value} {m : Mac} (h : SlM w B f b c l d m) (hb : Below B' w w') (hB : B ≤ B') : SlM w' B f b c l d m := h.keep fun _ hp => hb.cell (by omega)
theorem SlM.mono {w : World} {B B' : Nat} {f b c l d : Value} {m : Mac} (h : SlM w B f b c l d m) (hB : B ≤ B') : SlM w B' f b c l d m :=
  ⟨h.fr.mono hB, h.bk.mono hB, SlC.mono h.cr hB, SlC.mono h.lp hB, Sl.mono h.dr hB⟩
/-- The five parts are of the call's own, each in blocks apart from the others'. -/
structure OwP (w : World) (S : Nat → Prop) (tag : Nat → Nat) (f b c l d : Value) (m : Mac) : Prop where
  fr : OwS w (fun k => S k ∧ tag k = 0) f m.fr
  bk : OwS w (fun k => S k ∧ tag k = 1) b m.bk
  cr : OwC 126 2 w (fun k => S k ∧ tag k = 2) c m.cr.length (carC m.cr)
  lp : OwC 139 6 w (fun k => S k ∧ tag k = 3) l m.lp.length (infC m.lp)
  dr : (rw_ d m.dr).p w (fun k => S k ∧ tag k = 4)
def OwM (w : World) (S : Nat → Prop) (f b c l d : Value) (m : Mac) : Prop := ∃ tag, OwP w S tag f b c l d m
theorem OwP.keep {w w' : World} {S : Nat → Prop} {tag : Nat → Nat} {f b c l d : Value} {m : Mac} (h : OwP w S tag f b c l d m) (hk : ∀ k, S k → w'.heap[k]? = w.heap[k]?) : OwP w' S tag f b c l d m :=
  ⟨h.fr.keep fun k q => hk k q.1, h.bk.keep fun k q => hk k q.1, h.cr.keep fun k q => hk k q.1, h.lp.keep fun k q => hk k q.1, (rw_ d m.dr).keep h.dr fun k q => hk k q.1⟩
theorem OwM.keep {w w' : World} {S : Nat → Prop} {f b c l d : Value} {m : Mac} (h : OwM w S f b c l d m) (hk : ∀ k, S k → w'.heap[k]? = w.heap[k]?) : OwM w' S f b c l d m := by
  obtain ⟨tag, h⟩ := h
  exact ⟨tag, h.keep hk⟩
def mac_ (f b c l d : Value) (m : Mac) : Itm := ⟨fun w S => OwM w S f b c l d m, fun h hk => h.keep hk⟩
theorem rw_mono {w : World} {S S' : Nat → Prop} {v : Value} {xs : List Int} (h : (rw_ v xs).p w S) (hs : ∀ k, S k → S' k) : (rw_ v xs).p w S' := ⟨h.1, fun g hg => hs g (h.2 g hg)⟩
theorem OwM.mono {w : World} {S S' : Nat → Prop} {f b c l d : Value} {m : Mac} (h : OwM w S f b c l d m) (hs : ∀ k, S k → S' k) : OwM w S' f b c l d m := by
  obtain ⟨tag, h⟩ := h
  exact ⟨tag, h.fr.mono fun k q => ⟨hs k q.1, q.2⟩, h.bk.mono fun k q => ⟨hs k q.1, q.2⟩, h.cr.mono fun k q => ⟨hs k q.1, q.2⟩, h.lp.mono fun k q => ⟨hs k q.1, q.2⟩, rw_mono h.dr fun k q => ⟨hs k q.1, q.2⟩⟩
theorem rw_sl {w : World} {S : Nat → Prop} {B : Nat} {v : Value} {xs : List Int} (h : (rw_ v xs).p w S) (hB : ∀ k, S k → k < B) : Sl w B v xs := by
  obtain ⟨a, b, ho, hab, hS⟩ := ow_of_rw h
  rcases hab with h1 | h1
  · exact ho.sl (by omega)
  · exact ho.sl (by have := hB (b - 1) (hS _ (by omega) (by omega)); omega)
theorem OwM.sl {w : World} {S : Nat → Prop} {B : Nat} {f b c l d : Value} {m : Mac} (h : OwM w S f b c l d m) (hB : ∀ k, S k → k < B) : SlM w B f b c l d m := by
  obtain ⟨tag, h⟩ := h
  exact ⟨h.fr.sl fun k q => hB k q.1, h.bk.sl fun k q => hB k q.1, h.cr.sl fun k q => hB k q.1, h.lp.sl fun k q => hB k q.1, rw_sl h.dr fun k q => hB k q.1⟩
/-- Five things are one machine. -/
theorem Hs.mac {w : World} {lo : Nat} {f b c l d : Value} {m : Mac} (h : Hs w lo [rws_ f m.fr, rws_ b m.bk, rc_ 126 2 c m.cr.length (carC m.cr), rc_ 139 6 l m.lp.length (infC m.lp), rw_ d m.dr]) : Hs w lo [mac_ f b c l d m] := by
  obtain ⟨h0, own, h1⟩ := h
  refine ⟨h0, fun k => if own k < 5 then 0 else 1, fun k t e => ?_⟩
  obtain rfl : k = 0 := by
    have := (List.getElem?_eq_some_iff.1 e).1
    simp at this; exact this
  simp at e
  subst e
  have hs : ∀ k, (if own k < 5 then 0 else 1) = 0 ↔ own k < 5 := fun k => by split <;> simp_all
  refine ⟨⟨own, (h1 0 _ rfl).1.mono fun k q => ⟨(hs k).2 (by omega), q⟩, (h1 1 _ rfl).1.mono fun k q => ⟨(hs k).2 (by omega), q⟩, (h1 2 _ rfl).1.mono fun k q => ⟨(hs k).2 (by omega), q⟩, (h1 3 _ rfl).1.mono fun k q => ⟨(hs k).2 (by omega), q⟩, rw_mono (h1 4 _ rfl).1 fun k q => ⟨(hs k).2 (by omega), q⟩⟩, fun k q => ?_⟩
  have := (hs k).1 q
  match hk : own k, this with
  | 0, _ => exact (h1 0 _ rfl).2 k hk
  | 1, _ => exact (h1 1 _ rfl).2 k hk
  | 2, _ => exact (h1 2 _ rfl).2 k hk
  | 3, _ => exact (h1 3 _ rfl).2 k hk
  | 4, _ => exact (h1 4 _ rfl).2 k hk
/-- A machine is five things. -/
theorem OwM.hs {w w' : World} {f b c l d : Value} {m : Mac} (hb : Below w.heap.size w w') (h : OwM w' (Iv w.heap.size w'.heap.size) f b c l d m) : Hs w' w.heap.size [mac_ f b c l d m] :=
  Hs.one (t := mac_ f b c l d m) hb.size h fun _ q => q
/-- Boxes of seven cells. -/
theorem box7_set {w : World} {g : Nat} {b0 b1 b2 b3 b4 b5 b6 : Value} {t : TypeId} (a0 a1 a2 a3 a4 a5 a6 : Value) (hx : w.heap[g]? = some (.cells #[b0, b1, b2, b3, b4, b5, b6] t)) :
    let W := ((((((w.setCell ⟨g, 0, none⟩ a0).setCell ⟨g, 1, none⟩ a1).setCell ⟨g, 2, none⟩ a2).setCell ⟨g, 3, none⟩ a3).setCell ⟨g, 4, none⟩ a4).setCell ⟨g, 5, none⟩ a5).setCell ⟨g, 6, none⟩ a6
    W.heap[g]? = some (.cells #[a0, a1, a2, a3, a4, a5, a6] t) ∧ (∀ j, j ≠ g → W.heap[j]? = w.heap[j]?) ∧ W.heap.size = w.heap.size ∧ ∀ B, B ≤ g → Below B w W := by
  intro W
  refine ⟨?_, fun j hj => ?_, by simp [W, World.setCell], fun B hB => setB hB (setB hB (setB hB (setB hB (setB hB (setB hB (setB hB (Below.refl _ _)))))))⟩
  · have s0 : (w.setCell ⟨g, 0, none⟩ a0).heap[g]? = some (.cells #[a0, b1, b2, b3, b4, b5, b6] t) := heap_setCell_at (k := 0) a0 hx
    have s1 : ((w.setCell ⟨g, 0, none⟩ a0).setCell ⟨g, 1, none⟩ a1).heap[g]? = some (.cells #[a0, a1, b2, b3, b4, b5, b6] t) := heap_setCell_at (k := 1) a1 s0
    have s2 : (((w.setCell ⟨g, 0, none⟩ a0).setCell ⟨g, 1, none⟩ a1).setCell ⟨g, 2, none⟩ a2).heap[g]? = some (.cells #[a0, a1, a2, b3, b4, b5, b6] t) := heap_setCell_at (k := 2) a2 s1
    have s3 : ((((w.setCell ⟨g, 0, none⟩ a0).setCell ⟨g, 1, none⟩ a1).setCell ⟨g, 2, none⟩ a2).setCell ⟨g, 3, none⟩ a3).heap[g]? = some (.cells #[a0, a1, a2, a3, b4, b5, b6] t) := heap_setCell_at (k := 3) a3 s2
    have s4 : (((((w.setCell ⟨g, 0, none⟩ a0).setCell ⟨g, 1, none⟩ a1).setCell ⟨g, 2, none⟩ a2).setCell ⟨g, 3, none⟩ a3).setCell ⟨g, 4, none⟩ a4).heap[g]? = some (.cells #[a0, a1, a2, a3, a4, b5, b6] t) := heap_setCell_at (k := 4) a4 s3
    have s5 : ((((((w.setCell ⟨g, 0, none⟩ a0).setCell ⟨g, 1, none⟩ a1).setCell ⟨g, 2, none⟩ a2).setCell ⟨g, 3, none⟩ a3).setCell ⟨g, 4, none⟩ a4).setCell ⟨g, 5, none⟩ a5).heap[g]? = some (.cells #[a0, a1, a2, a3, a4, a5, b6] t) := heap_setCell_at (k := 5) a5 s4
    have s6 : (((((((w.setCell ⟨g, 0, none⟩ a0).setCell ⟨g, 1, none⟩ a1).setCell ⟨g, 2, none⟩ a2).setCell ⟨g, 3, none⟩ a3).setCell ⟨g, 4, none⟩ a4).setCell ⟨g, 5, none⟩ a5).setCell ⟨g, 6, none⟩ a6).heap[g]? = some (.cells #[a0, a1, a2, a3, a4, a5, a6] t) := heap_setCell_at (k := 6) a6 s5
    exact s6
  · simp only [W]
    rw [Below.heap_setCell _ _ _ _ hj, Below.heap_setCell _ _ _ _ hj, Below.heap_setCell _ _ _ _ hj, Below.heap_setCell _ _ _ _ hj, Below.heap_setCell _ _ _ _ hj, Below.heap_setCell _ _ _ _ hj, Below.heap_setCell _ _ _ _ hj]
theorem box7 {w : World} {g : Nat} {a b c d e f h : Value} {t : TypeId} (hx : w.heap[g]? = some (.cells #[a, b, c, d, e, f, h] t)) :
    (w.cell? ⟨g, 0, none⟩ = some a ∧ w.cell? ⟨g, 1, none⟩ = some b ∧ w.cell? ⟨g, 2, none⟩ = some c ∧ w.cell? ⟨g, 3, none⟩ = some d ∧ w.cell? ⟨g, 4, none⟩ = some e ∧ w.cell? ⟨g, 5, none⟩ = some f ∧ w.cell? ⟨g, 6, none⟩ = some h) ∧ (∀ k, w.frozen? ⟨g, k, none⟩ = false) ∧ g < w.heap.size :=
  ⟨⟨cell_of_row w g 0 _ t (0, 0) hx, cell_of_row w g 1 _ t (0, 0) hx, cell_of_row w g 2 _ t (0, 0) hx, cell_of_row w g 3 _ t (0, 0) hx, cell_of_row w g 4 _ t (0, 0) hx, cell_of_row w g 5 _ t (0, 0) hx, cell_of_row w g 6 _ t (0, 0) hx⟩, fun k => by simp only [World.frozen?, hx]; simp, heap_lt hx⟩
/-- The marks of a machine. -/
def Mac.size (m : Mac) : Nat := (m.fr.length + lenSS m.fr) + (m.bk.length + lenSS m.bk) + m.cr.length + (m.lp.length + lenSS (prs m.lp)) + m.dr.length
def Mac.marks (m : Mac) : Nat := lenSS m.fr + lenSS m.bk + 2 * m.cr.length + lenSS m.lp + m.dr.length
def Mac.mark (c : Int) (m : Mac) : Mac := ⟨m.wd, m.rk, markSS c m.fr, markSS (c + lenSS m.fr) m.bk, markK (c + lenSS m.fr + lenSS m.bk) m.cr.length, markSS (c + lenSS m.fr + lenSS m.bk + 2 * m.cr.length) m.lp, countFrom (c + lenSS m.fr + lenSS m.bk + 2 * m.cr.length + lenSS m.lp) m.dr.length⟩
end Go.Proofs.YtgmppfhokfifgaaGreatDoor
