/-
  Slices of slices of int64: reading (SlS), rows that the call has made (OwS, the item rws_), and the laws' helpers on them.
-/
import Derived.Test.YtgmppfhokfifgaaGreatDoorSt
import Derived.Test.YtgmppfhokfifgaaGreatDoorInts
import Derived.Test.YtgmppfhokfifgaaGreatDoorOwr
namespace Go.Proofs.YtgmppfhokfifgaaGreatDoor
set_option maxRecDepth 10000
open Go.RowKit

/-- Row k of a list of rows. -/
def gl (xss : List (List Int)) (k : Nat) : List Int := xss.getD k []
theorem gl_eq {xss : List (List Int)} {k : Nat} (h : k < xss.length) : gl xss k = xss[k] := by simp [gl, List.getD, h]
theorem gl_mem {xss : List (List Int)} {k : Nat} (h : k < xss.length) : gl xss k ∈ xss := by rw [gl_eq h]; exact List.getElem_mem h
theorem gl_ext {xs ys : List (List Int)} (hl : xs.length = ys.length) (h : ∀ j, j < xs.length → gl xs j = gl ys j) : xs = ys := by
  apply List.ext_getElem hl
  intro i h1 h2
  have := h i h1
  rwa [gl_eq h1, gl_eq h2] at this
theorem take_gl {xss : List (List Int)} {k : Nat} (h : k < xss.length) : xss.take (k + 1) = xss.take k ++ [gl xss k] := by
  rw [List.take_succ_eq_append_getElem h, gl_eq h]

/-- The slice value v reads as the rows xss; all blocks lie below B. -/
def SlS (w : World) (B : Nat) (v : Value) (xss : List (List Int)) : Prop :=
  ∃ A c, v = .slice A xss.length c ∧ xss.length ≤ c ∧ c ≤ maxLen ∧ (A = none → c = 0) ∧
    (0 < xss.length → ∃ b off, A = some ⟨b, off, none⟩ ∧ b < B ∧ ∀ k, k < xss.length → ∃ u, w.cell? ⟨b, off + k, none⟩ = some u ∧ Sl w B u (gl xss k))
theorem SlS.keep {w w' : World} {B : Nat} {v : Value} {xss : List (List Int)} (h : SlS w B v xss) (hk : ∀ p : Addr, p.block < B → w'.cell? p = w.cell? p) : SlS w' B v xss := by
  obtain ⟨A, c, h1, h2, h3, h4, h5⟩ := h
  refine ⟨A, c, h1, h2, h3, h4, fun hp => ?_⟩
  obtain ⟨b, off, e, hb, hc⟩ := h5 hp
  refine ⟨b, off, e, hb, fun k hk' => ?_⟩
  obtain ⟨u, hu, hs⟩ := hc k hk'
  exact ⟨u, by rw [hk _ hb]; exact hu, hs.keep hk⟩
theorem SlS.below {w w' : World} {B B' : Nat} {v : Value} {xss : List (List Int)} (h : SlS w B v xss) (hb : Below B' w w') (hB : B ≤ B') : SlS w' B v xss :=
  h.keep fun _ hp => hb.cell (by omega)
theorem SlS.mono {w : World} {B B' : Nat} {v : Value} {xss : List (List Int)} (h : SlS w B v xss) (hB : B ≤ B') : SlS w B' v xss := by
  obtain ⟨A, c, h1, h2, h3, h4, h5⟩ := h
  refine ⟨A, c, h1, h2, h3, h4, fun hp => ?_⟩
  obtain ⟨b, off, e, hb, hc⟩ := h5 hp
  refine ⟨b, off, e, by omega, fun k hk' => ?_⟩
  obtain ⟨u, hu, hs⟩ := hc k hk'
  exact ⟨u, hu, hs.mono hB⟩
theorem SlS.drewN {w : World} {B : Nat} {v : Value} {xss : List (List Int)} (h : SlS w B v xss) (n : Nat) : SlS (w.drewN n) B v xss := h
theorem SlS.nil (w : World) (B : Nat) : SlS w B (.slice none 0 0) [] := ⟨none, 0, rfl, Nat.le_refl _, by simp [maxLen], fun _ => rfl, fun h => absurd h (by simp)⟩

/-- Rows that the call has made: their blocks lie in S, each row's apart from the others'. -/
def OwS (w : World) (S : Nat → Prop) (v : Value) (xss : List (List Int)) : Prop :=
  ∃ (vs : List Value) (tag : Nat → Nat), w.ownsRow 0 33 1 v xss.length vs ∧ (∀ g, v.ownBlock = some g → S g ∧ tag g = 0) ∧ vs.length = xss.length ∧
    ∀ k u, vs[k]? = some u → (rw_ u (gl xss k)).p w (fun b => S b ∧ tag b = k + 1)
theorem ownsRow_keep {w w' : World} {e : TypeId} {size lo : Nat} {v : Value} {n : Nat} {us : List Value} (h : w.ownsRow lo e size v n us) (hk : ∀ g, v.ownBlock = some g → w'.heap[g]? = w.heap[g]?) : w'.ownsRow lo e size v n us := by
  obtain ⟨h1, h2⟩ := h
  refine ⟨h1, ?_⟩
  rcases h2 with h2 | ⟨g, cap, cur, rfl, hlo, hh, r⟩
  · exact .inl h2
  · exact .inr ⟨g, cap, cur, rfl, hlo, by rw [hk g rfl]; exact hh, r⟩
theorem OwS.keep {w w' : World} {S : Nat → Prop} {v : Value} {xss : List (List Int)} (h : OwS w S v xss) (hk : ∀ k, S k → w'.heap[k]? = w.heap[k]?) : OwS w' S v xss := by
  obtain ⟨vs, tag, h1, h2, h3, h4⟩ := h
  exact ⟨vs, tag, ownsRow_keep h1 fun g hg => hk g (h2 g hg).1, h2, h3, fun k u hu => (rw_ u (gl xss k)).keep (h4 k u hu) fun b hb => hk b hb.1⟩
theorem OwS.mono {w : World} {S S' : Nat → Prop} {v : Value} {xss : List (List Int)} (h : OwS w S v xss) (hs : ∀ k, S k → S' k) : OwS w S' v xss := by
  obtain ⟨vs, tag, h1, h2, h3, h4⟩ := h
  exact ⟨vs, tag, h1, fun g hg => ⟨hs g (h2 g hg).1, (h2 g hg).2⟩, h3, fun k u hu => ⟨(h4 k u hu).1, fun g hg => ⟨hs g ((h4 k u hu).2 g hg).1, ((h4 k u hu).2 g hg).2⟩⟩⟩
def rws_ (v : Value) (xss : List (List Int)) : Itm := ⟨fun w S => OwS w S v xss, fun h hk => h.keep hk⟩
theorem OwS.sl {w : World} {S : Nat → Prop} {B : Nat} {v : Value} {xss : List (List Int)} (h : OwS w S v xss) (hB : ∀ b, S b → b < B) : SlS w B v xss := by
  obtain ⟨vs, tag, h1, h2, h3, h4⟩ := h
  have h1' := h1
  rcases h1.2 with ⟨rfl, h0⟩ | ⟨g, cap, cur, rfl, hlo, hh, hn, hcap, hsz, htake⟩
  · rw [List.eq_nil_of_length_eq_zero h0]
    exact SlS.nil w B
  · refine ⟨_, cap, rfl, hn, hcap, (by simp), fun hp => ⟨g, 0, rfl, hB g (h2 g rfl).1, fun k hk => ?_⟩⟩
    obtain ⟨u, hu⟩ : ∃ u, vs[k]? = some u := ⟨vs[k], List.getElem?_eq_getElem (by omega)⟩
    refine ⟨u, ?_, ?_⟩
    · rw [Nat.zero_add, h1'.cellAt k (by omega), hu]
    · obtain ⟨a, b, ho, hab, hS⟩ := ow_of_rw (h4 k u hu)
      rcases hab with h5 | h5
      · exact ho.sl (by omega)
      · exact ho.sl (by have := hB _ (hS (b - 1) (by omega) (by omega)).1; omega)
theorem OwS.nil (w : World) (S : Nat → Prop) : OwS w S (.slice none 0 0) [] := ⟨[], fun _ => 0, World.ownsRow_nil w 0 _ 1, by simp [Value.ownBlock], rfl, fun k u h => by simp at h⟩
theorem rw_nil (w : World) (S : Nat → Prop) : (rw_ (.slice none 0 0) []).p w S := ⟨World.ownsRow_nil w 0 _ 1, by simp [Value.ownBlock]⟩
/-- From a row of slices that reads as nil slices. -/
theorem OwS.nils {w : World} {S : Nat → Prop} {v : Value} {n : Nat} (h : w.ownsRow 0 33 1 v n (List.replicate n (.slice none 0 0))) (hs : ∀ g, v.ownBlock = some g → S g) : OwS w S v (List.replicate n []) := by
  refine ⟨List.replicate n (.slice none 0 0), fun _ => 0, by rw [List.length_replicate]; exact h, fun g hg => ⟨hs g hg, rfl⟩, by simp, fun k u hu => ?_⟩
  have hk : k < n := by have := (List.getElem?_eq_some_iff.1 hu).1; simpa using this
  rw [List.getElem?_replicate, if_pos hk] at hu
  injection hu with hu
  subst hu
  rw [show gl (List.replicate n []) k = [] by rw [gl_eq (by simpa using hk)]; simp]
  exact rw_nil _ _
/-- Rows in an interval of blocks. -/
def Iv (lo hi : Nat) : Nat → Prop := fun b => lo ≤ b ∧ b < hi
theorem hs_ows {w w' : World} {v : Value} {xss : List (List Int)} (h : OwS w' (Iv w.heap.size w'.heap.size) v xss) (hb : Below w.heap.size w w') : Hs w' w.heap.size [rws_ v xss] :=
  Hs.one (t := rws_ v xss) hb.size h fun _ hk => hk
theorem OwS.below {w w' : World} {B lo hi : Nat} {v : Value} {xss : List (List Int)} (h : OwS w (Iv lo hi) v xss) (hb : Below B w w') (hB : hi ≤ B) : OwS w' (Iv lo hi) v xss :=
  h.keep fun k hk => hb.block k (by have := hk.2; omega)
/-- A row is put to the end: the outer row has been appended to. -/
theorem OwS.push {w w' : World} {lo hi : Nat} {v v' u : Value} {xss : List (List Int)} {xs : List Int} (h : OwS w (Iv lo hi) v xss) (hu : Ow w hi w.heap.size u xs) (hhi : hi ≤ w.heap.size)
    (hg : w.grownBy w' v.ownBlock) (hl : v'.ownBlock = v.ownBlock ∨ ∀ g, v'.ownBlock = some g → w.heap.size ≤ g)
    (hv : ∀ vs, w.ownsRow 0 33 1 v xss.length vs → w'.ownsRow 0 33 1 v' (xss.length + 1) (vs ++ [u])) (hlo : lo ≤ hi) : OwS w' (Iv lo w'.heap.size) v' (xss ++ [xs]) := by
  obtain ⟨vs, tag, h1, h2, h3, h4⟩ := h
  have hv' := hv vs h1
  have hsz := hg.size
  refine ⟨vs ++ [u], fun b => if w.heap.size ≤ b then 0 else if hi ≤ b then xss.length + 1 else tag b, by rw [List.length_append]; exact hv', fun g hgv => ?_, by simp [h3], fun k x hx => ?_⟩
  · have hlt := (hv'.lt g hgv).2
    rcases hl with e | e
    · rw [e] at hgv
      obtain ⟨⟨a, b⟩, c⟩ := h2 g hgv
      refine ⟨⟨a, hlt⟩, ?_⟩
      simp only
      rw [if_neg (by omega), if_neg (by omega)]
      exact c
    · have := e g hgv
      exact ⟨⟨by omega, hlt⟩, by simp only; rw [if_pos this]⟩
  · by_cases hk : k < vs.length
    · rw [List.getElem?_append_left hk] at hx
      have hgl : gl (xss ++ [xs]) k = gl xss k := by
        rw [gl_eq (by simp; omega), gl_eq (by omega), List.getElem_append_left (by omega)]
      rw [hgl]
      have h5 := h4 k x hx
      refine ⟨ownsRow_keep h5.1 fun g hgx => hg.block g (by have := (h5.2 g hgx).1.2; omega) fun e => ?_, fun g hgx => ?_⟩
      · have h6 := (h5.2 g hgx).2
        have h7 := (h2 g e.symm).2
        omega
      · obtain ⟨⟨a, b⟩, c⟩ := h5.2 g hgx
        refine ⟨⟨a, by omega⟩, ?_⟩
        simp only
        rw [if_neg (by omega), if_neg (by omega)]
        exact c
    · have hkl : k < (vs ++ [u]).length := (List.getElem?_eq_some_iff.1 hx).1
      simp at hkl
      obtain rfl : k = vs.length := by omega
      rw [List.getElem?_append_right (Nat.le_refl _)] at hx
      simp at hx
      subst hx
      have hgl : gl (xss ++ [xs]) vs.length = xs := by rw [h3, gl_eq (by simp)]; simp
      rw [hgl]
      have h5 := rw_of_ow hu
      refine ⟨ownsRow_keep h5.1 fun g hgx => hg.block g (h5.2 g hgx).2 fun e => ?_, fun g hgx => ?_⟩
      · have h6 := h5.2 g hgx
        have h7 := (h2 g e.symm).1
        have := h7.2
        omega
      · have h6 := h5.2 g hgx
        refine ⟨⟨by omega, by omega⟩, ?_⟩
        simp only
        rw [if_neg (by omega), if_pos h6.1, h3]
end Go.Proofs.YtgmppfhokfifgaaGreatDoor
