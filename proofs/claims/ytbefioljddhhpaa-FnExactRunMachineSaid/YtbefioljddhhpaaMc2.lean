/-
  Descriptions of loops (five numbers and the parents, as one list) and carriers in memory, and the laws' helpers on them.
-/
import Derived.Test.YtbefioljddhhpaaMc
namespace Go.Proofs.Ytbefioljddhhpaa
set_option maxRecDepth 10000
open Go.RowKit

theorem flat_getG {α : Type} {z : Nat} {M : List (List α)} (h : ∀ r ∈ M, r.length = z) {k j : Nat} (hk : k < M.length) (hj : j < z) : M.flatten[k * z + j]? = M[k][j]? := by
  induction M generalizing k with
  | nil => simp at hk
  | cons r M ih =>
    have hr := h r (by simp)
    rw [List.flatten_cons]
    cases k with
    | zero => rw [Nat.zero_mul, Nat.zero_add, List.getElem?_append_left (by omega)]; rfl
    | succ k =>
      rw [Nat.succ_mul, List.getElem?_append_right (by omega), show k * z + z + j - r.length = k * z + j by omega]
      exact ih (fun s hs => h s (by simp [hs])) (by simpa using hk)
theorem flat_lenG {α : Type} {z : Nat} {M : List (List α)} (h : ∀ r ∈ M, r.length = z) : M.flatten.length = M.length * z := by
  induction M with
  | nil => simp
  | cons r M ih =>
    rw [List.flatten_cons, List.length_append, ih fun s hs => h s (by simp [hs]), h r (by simp), List.length_cons, Nat.succ_mul]; omega
theorem flat_setG {α : Type} {z : Nat} {M : List (List α)} (h : ∀ r ∈ M, r.length = z) {k j : Nat} (hk : k < M.length) (hj : j < z) (x : α) : M.flatten.set (k * z + j) x = (M.set k (M[k].set j x)).flatten := by
  induction M generalizing k with
  | nil => simp at hk
  | cons r M ih =>
    have hr := h r (by simp)
    rw [List.flatten_cons]
    cases k with
    | zero => rw [Nat.zero_mul, Nat.zero_add, List.set_append_left _ _ (by omega)]; rfl
    | succ k =>
      rw [Nat.succ_mul, List.set_append_right _ _ (by omega), show k * z + z + j - r.length = k * z + j by omega, ih (fun s hs => h s (by simp [hs])) (by simpa using hk)]
      rfl
theorem made_gen {cells : Array Value} {z : Nat} (hz : cells.size = z) (h0 : 0 < z) (n : Nat) : (madeCells cells (n * z)).toList = (List.replicate n cells.toList).flatten := by
  have hM : ∀ r ∈ List.replicate n cells.toList, r.length = z := fun r hr => by rw [(List.mem_replicate.1 hr).2]; simpa using hz
  apply List.ext_getElem?
  intro j
  by_cases hj : j < n * z
  · have hm : j % z < z := Nat.mod_lt _ h0
    have hd : j / z < n := by rw [Nat.div_lt_iff_lt_mul h0]; exact hj
    have e : j = j / z * z + j % z := by rw [Nat.mul_comm]; exact (Nat.div_add_mod j z).symm
    have h1 := flat_getG hM (k := j / z) (j := j % z) (by simpa using hd) hm
    rw [← e] at h1
    rw [h1]
    simp [madeCells, hj, hz, getElem!_pos, hm]
  · rw [List.getElem?_eq_none (by simp [madeCells]; omega), List.getElem?_eq_none (by rw [flat_lenG hM]; simp; omega)]
/-- The cells of a description: five numbers, and the parents behind them. -/
def infC1 (o : List Int) : List Cl := [.p (.int .i64 (gi o 0)), .p (.int .i64 (gi o 1)), .p (.int .i64 (gi o 2)), .p (.int .i64 (gi o 3)), .p (.int .i64 (gi o 4)), .s (o.drop 5)]
def infC (L : List (List Int)) : List Cl := (L.map infC1).flatten
def carC1 (c : Bool × Int) : List Cl := [.p (.bool c.1), .p (.int .i64 c.2)]
def carC (C : List (Bool × Int)) : List Cl := (C.map carC1).flatten
theorem infC_6 (L : List (List Int)) : ∀ r ∈ L.map infC1, r.length = 6 := fun r hr => by obtain ⟨o, -, rfl⟩ := List.mem_map.1 hr; rfl
theorem carC_2 (C : List (Bool × Int)) : ∀ r ∈ C.map carC1, r.length = 2 := fun r hr => by obtain ⟨o, -, rfl⟩ := List.mem_map.1 hr; rfl
theorem infC_len (L : List (List Int)) : (infC L).length = L.length * 6 := by unfold infC; rw [flat_lenG (infC_6 L)]; simp
theorem carC_len (C : List (Bool × Int)) : (carC C).length = C.length * 2 := by unfold carC; rw [flat_lenG (carC_2 C)]; simp
theorem infC_get {L : List (List Int)} {k j : Nat} (hk : k < L.length) (hj : j < 6) : (infC L)[k * 6 + j]? = (infC1 (gl L k))[j]? := by
  unfold infC; rw [flat_getG (infC_6 L) (by simpa using hk) hj]; simp [gl_eq hk]
/-- Carrier k. -/
def gc (C : List (Bool × Int)) (k : Nat) : Bool × Int := C.getD k (false, 0)
theorem gc_eq {D : List (Bool × Int)} {k : Nat} (h : k < D.length) : gc D k = D[k] := by simp [gc, List.getD, h]
theorem carC_get {C : List (Bool × Int)} {k j : Nat} (hk : k < C.length) (hj : j < 2) : (carC C)[k * 2 + j]? = (carC1 (gc C k))[j]? := by
  unfold carC; rw [flat_getG (carC_2 C) (by simpa using hk) hj]; simp [gc_eq hk]
theorem infC_set {L : List (List Int)} {k j : Nat} (hk : k < L.length) (hj : j < 6) {o : List Int} {c : Cl} (h : (infC1 (gl L k)).set j c = infC1 o) : (infC L).set (k * 6 + j) c = infC (L.set k o) := by
  unfold infC
  rw [flat_setG (infC_6 L) (by simpa using hk) hj]
  congr 1
  rw [gl_eq hk] at h
  simp [List.map_set, h]
theorem carC_set {C : List (Bool × Int)} {k j : Nat} (hk : k < C.length) (hj : j < 2) {o : Bool × Int} {c : Cl} (h : (carC1 (gc C k)).set j c = carC1 o) : (carC C).set (k * 2 + j) c = carC (C.set k o) := by
  unfold carC
  rw [flat_setG (carC_2 C) (by simpa using hk) hj]
  congr 1
  rw [gc_eq hk] at h
  simp [List.map_set, h]
/-- Descriptions to read; carriers to read. -/
def SlF (w : World) (B : Nat) (v : Value) (L : List (List Int)) : Prop := SlC 6 w B v L.length (infC L)
def SlK (w : World) (B : Nat) (v : Value) (C : List (Bool × Int)) : Prop := SlC 2 w B v C.length (carC C)
theorem SlF.cells {w : World} {B : Nat} {v : Value} {L : List (List Int)} (h : SlF w B v L) : ∃ A c, v = .slice A L.length c ∧ L.length ≤ c ∧ c ≤ 9223372036854775807 ∧
    (0 < L.length → ∃ b off, A = some ⟨b, off, none⟩ ∧ b < B ∧ ∀ k, k < L.length → (∀ j, j < 5 → w.cell? ⟨b, off + k * 6 + j, none⟩ = some (.int .i64 (gi (gl L k) j))) ∧ ∃ u, w.cell? ⟨b, off + k * 6 + 5, none⟩ = some u ∧ Sl w B u ((gl L k).drop 5)) := by
  obtain ⟨A, c, h1, h2, h3, -, h5⟩ := h
  refine ⟨A, c, h1, h2, by simpa [maxLen] using h3, fun hp => ?_⟩
  obtain ⟨b, off, e, hb, hc⟩ := h5 hp
  refine ⟨b, off, e, hb, fun k hk => ⟨fun j hj => ?_, ?_⟩⟩
  · have hg := infC_get hk (show j < 6 by omega)
    have : (infC1 (gl L k))[j]? = some (.p (.int .i64 (gi (gl L k) j))) := by
      match j, hj with
      | 0, _ => rfl
      | 1, _ => rfl
      | 2, _ => rfl
      | 3, _ => rfl
      | 4, _ => rfl
    obtain ⟨u, h6, h7⟩ := hc _ _ (hg.trans this)
    simp only [ClR] at h7
    subst h7
    rw [Nat.add_assoc]; exact h6
  · obtain ⟨u, h6, h7⟩ := hc _ _ ((infC_get hk (show 5 < 6 by omega)).trans rfl)
    exact ⟨u, by rw [Nat.add_assoc]; exact h6, h7⟩
theorem SlK.cells {w : World} {B : Nat} {v : Value} {C : List (Bool × Int)} (h : SlK w B v C) : ∃ A c, v = .slice A C.length c ∧ C.length ≤ c ∧ c ≤ 9223372036854775807 ∧
    (0 < C.length → ∃ b off, A = some ⟨b, off, none⟩ ∧ b < B ∧ ∀ k, k < C.length → w.cell? ⟨b, off + k * 2, none⟩ = some (.bool (gc C k).1) ∧ w.cell? ⟨b, off + k * 2 + 1, none⟩ = some (.int .i64 (gc C k).2)) := by
  obtain ⟨A, c, h1, h2, h3, -, h5⟩ := h
  refine ⟨A, c, h1, h2, by simpa [maxLen] using h3, fun hp => ?_⟩
  obtain ⟨b, off, e, hb, hc⟩ := h5 hp
  refine ⟨b, off, e, hb, fun k hk => ⟨?_, ?_⟩⟩
  · obtain ⟨u, h6, h7⟩ := hc _ _ ((carC_get hk (show 0 < 2 by omega)).trans rfl)
    simp only [ClR] at h7
    subst h7
    exact h6
  · obtain ⟨u, h6, h7⟩ := hc _ _ ((carC_get hk (show 1 < 2 by omega)).trans rfl)
    simp only [ClR] at h7
    subst h7
    rw [Nat.add_assoc]; exact h6
theorem chgS_iv {lo hi : Nat} {w w' : World} (h : ChgS (Iv lo hi) w w') : Chg lo hi w w' := ⟨h.os, h.tape, h.output, h.size, fun k hk hd => h.block k hk fun hs => by have := hs.1; have := hs.2; omega⟩
theorem infC_step {L : List (List Int)} {k : Nat} (hk : k < L.length) (R : List Cl) (j : Nat) (c : Cl) (hR : R.length = 6) (hj : j < 6) : ((L.map infC1).set k R).flatten.set (k * 6 + j) c = ((L.map infC1).set k (R.set j c)).flatten := by
  have h6 : ∀ r ∈ (L.map infC1).set k R, r.length = 6 := fun r hr => by
    rcases List.mem_or_eq_of_mem_set hr with hr | rfl
    · exact infC_6 L r hr
    · exact hR
  rw [flat_setG h6 (by simpa using hk) hj, List.set_set, List.getElem_set_self]
theorem infC_first {L : List (List Int)} {k : Nat} (hk : k < L.length) (c : Cl) : (infC L).set (k * 6) c = ((L.map infC1).set k ((infC1 (gl L k)).set 0 c)).flatten := by
  have h := flat_setG (infC_6 L) (k := k) (j := 0) (by simpa using hk) (by omega) c
  rw [Nat.add_zero] at h
  unfold infC
  rw [h, List.getElem_map, gl_eq hk]
theorem infC_six {L : List (List Int)} {k : Nat} (hk : k < L.length) {a0 a1 a2 a3 a4 : Int} {ps : List Int} :
    (((((((infC L).set (k * 6) (.p (.int .i64 a0))).set (k * 6 + 1) (.p (.int .i64 a1))).set (k * 6 + 2) (.p (.int .i64 a2))).set (k * 6 + 3) (.p (.int .i64 a3))).set (k * 6 + 4) (.p (.int .i64 a4))).set (k * 6 + 5) (.s ps)) = infC (L.set k (a0 :: a1 :: a2 :: a3 :: a4 :: ps)) := by
  rw [infC_first hk, infC_step hk _ 1 _ rfl (by omega), infC_step hk _ 2 _ rfl (by omega), infC_step hk _ 3 _ rfl (by omega), infC_step hk _ 4 _ rfl (by omega), infC_step hk _ 5 _ rfl (by omega)]
  unfold infC
  rw [List.map_set]
  rfl
/-- A description laid anew, cell by cell. -/
theorem OwC.setI {w : World} {lo hi g n cap : Nat} {L : List (List Int)} {u : Value} {ps : List Int} {e : TypeId} (h : OwC e 6 w (Iv lo hi) (.slice (some ⟨g, 0, none⟩) n cap) n (infC L)) (k : Nat) (hk : k < L.length) (hu : Ow w hi w.heap.size u ps) (hhi : hi ≤ w.heap.size) (a0 a1 a2 a3 a4 : Int) :
    (∀ j, j < 6 → ∃ x, w.cell? ⟨g, k * 6 + j, none⟩ = some x ∧ w.frozen? ⟨g, k * 6 + j, none⟩ = false) ∧ ∃ W : World, W = (((((w.setCell ⟨g, k * 6, none⟩ (.int .i64 a0)).setCell ⟨g, k * 6 + 1, none⟩ (.int .i64 a1)).setCell ⟨g, k * 6 + 2, none⟩ (.int .i64 a2)).setCell ⟨g, k * 6 + 3, none⟩ (.int .i64 a3)).setCell ⟨g, k * 6 + 4, none⟩ (.int .i64 a4)).setCell ⟨g, k * 6 + 5, none⟩ u ∧
      OwC e 6 W (Iv lo W.heap.size) (.slice (some ⟨g, 0, none⟩) n cap) n (infC (L.set k (a0 :: a1 :: a2 :: a3 :: a4 :: ps))) ∧ Chg lo hi w W := by
  have hlen := infC_len L
  refine ⟨fun j hj => ?_, _, rfl, ?_⟩
  · obtain ⟨c, hc⟩ : ∃ c, (infC L)[k * 6 + j]? = some c := ⟨_, List.getElem?_eq_getElem (by omega)⟩
    obtain ⟨g', cap', x, e1, -, e2, e3, -⟩ := h.shape hc
    simp only [Value.slice.injEq, Option.some.injEq, Addr.mk.injEq] at e1
    obtain ⟨⟨rfl, -, -⟩, -, -⟩ := e1
    exact ⟨x, e2, e3⟩
  · have hst : ∀ (M : List Cl) (W : World), OwC e 6 W (Iv lo hi) (.slice (some ⟨g, 0, none⟩) n cap) n M → M.length = L.length * 6 → W.heap.size = w.heap.size → Ow W hi w.heap.size u ps → ∀ (i : Nat) (x : Value), i < L.length * 6 →
        OwC e 6 (W.setCell ⟨g, i, none⟩ x) (Iv lo hi) (.slice (some ⟨g, 0, none⟩) n cap) n (M.set i (.p x)) ∧ (M.set i (.p x)).length = L.length * 6 ∧ (W.setCell ⟨g, i, none⟩ x).heap.size = w.heap.size ∧ Ow (W.setCell ⟨g, i, none⟩ x) hi w.heap.size u ps ∧ Chg lo hi W (W.setCell ⟨g, i, none⟩ x) := fun M W hM hl hs ho i x hi' => by
      obtain ⟨p1, p2⟩ := hM.setP (k := i) (by omega) x
      obtain ⟨vs, tag, -, hg, -⟩ := hM
      have := (hg g rfl).1.2
      exact ⟨p1, by simpa using hl, by simpa [World.setCell] using hs, ho.keep fun b b1 b2 => Below.heap_setCell _ _ _ _ (by simp only; omega), chgS_iv p2⟩
    have hk6 : k * 6 + 6 ≤ L.length * 6 := by omega
    obtain ⟨o0, l0, s0, u0, c0⟩ := hst _ w h hlen rfl hu (k * 6) (.int .i64 a0) (by omega)
    obtain ⟨o1, l1, s1, u1, c1⟩ := hst _ _ o0 l0 s0 u0 (k * 6 + 1) (.int .i64 a1) (by omega)
    obtain ⟨o2, l2, s2, u2, c2⟩ := hst _ _ o1 l1 s1 u1 (k * 6 + 2) (.int .i64 a2) (by omega)
    obtain ⟨o3, l3, s3, u3, c3⟩ := hst _ _ o2 l2 s2 u2 (k * 6 + 3) (.int .i64 a3) (by omega)
    obtain ⟨o4, l4, s4, u4, c4⟩ := hst _ _ o3 l3 s3 u3 (k * 6 + 4) (.int .i64 a4) (by omega)
    obtain ⟨g', cap', x, e1, -, -, -, -, o5, c5⟩ := o4.setS (k * 6 + 5) (by omega) (by rw [s4]; exact u4) (by omega)
    simp only [Value.slice.injEq, Option.some.injEq, Addr.mk.injEq] at e1
    obtain ⟨⟨rfl, -, -⟩, -, -⟩ := e1
    refine ⟨?_, ((((c0.trans c1).trans c2).trans c3).trans c4).trans c5⟩
    rw [infC_six hk] at o5
    exact o5
/-- A carrier laid anew. -/
theorem OwC.setK {w : World} {S : Nat → Prop} {g n cap : Nat} {C : List (Bool × Int)} {e : TypeId} (h : OwC e 2 w S (.slice (some ⟨g, 0, none⟩) n cap) n (carC C)) (k : Nat) (hk : k < C.length) (a : Bool) (b : Int) :
    (∀ j, j < 2 → ∃ x, w.cell? ⟨g, k * 2 + j, none⟩ = some x ∧ w.frozen? ⟨g, k * 2 + j, none⟩ = false) ∧ ∃ W : World, W = (w.setCell ⟨g, k * 2, none⟩ (.bool a)).setCell ⟨g, k * 2 + 1, none⟩ (.int .i64 b) ∧
      OwC e 2 W S (.slice (some ⟨g, 0, none⟩) n cap) n (carC (C.set k (a, b))) ∧ ChgS S w W := by
  have hlen := carC_len C
  refine ⟨fun j hj => ?_, _, rfl, ?_⟩
  · obtain ⟨c, hc⟩ : ∃ c, (carC C)[k * 2 + j]? = some c := ⟨_, List.getElem?_eq_getElem (by omega)⟩
    obtain ⟨g', cap', x, e1, -, e2, e3, -⟩ := h.shape hc
    simp only [Value.slice.injEq, Option.some.injEq, Addr.mk.injEq] at e1
    obtain ⟨⟨rfl, -, -⟩, -, -⟩ := e1
    exact ⟨x, e2, e3⟩
  · obtain ⟨o0, c0⟩ := h.setP (k := k * 2) (by omega) (.bool a)
    obtain ⟨o1, c1⟩ := o0.setP (k := k * 2 + 1) (by simp; omega) (.int .i64 b)
    refine ⟨?_, c0.trans c1⟩
    have e1 : (carC C).set (k * 2) (.p (.bool a)) = carC (C.set k (a, (gc C k).2)) := carC_set (j := 0) hk (by omega) rfl
    rw [e1, carC_set (C := C.set k (a, (gc C k).2)) (o := (a, b)) (j := 1) (by simpa using hk) (by omega) (by rw [gc_eq (by simpa using hk)]; simp [carC1]), List.set_set] at o1
    exact o1
end Go.Proofs.Ytbefioljddhhpaa
