/-
  Slices of slices of int64: reading (SlS), rows that the call has made (OwS, the item rws_), and the laws' helpers on them.
-/
import Derived.Test.YtcinnbkhnonijaaSt
import Derived.Test.YtcinnbkhnonijaaInts
import Derived.Test.YtcinnbkhnonijaaOwr
import Derived.Test.YtcinnbkhnonijaaBraid
namespace Go.Proofs.Ytcinnbkhnonijaa
set_option maxRecDepth 10000
open Go.RowKit

/-- Row k of a list of rows. -/
def gl (xss : List (List Int)) (k : Nat) : List Int := xss.getD k []
theorem gl_eq {xss : List (List Int)} {k : Nat} (h : k < xss.length) : gl xss k = xss[k] := by simp [gl, List.getD, h]
theorem gl_some {xss : List (List Int)} {k : Nat} (h : k < xss.length) : xss[k]? = some (gl xss k) := by rw [gl_eq h]; exact List.getElem?_eq_getElem h
theorem gl_mem {xss : List (List Int)} {k : Nat} (h : k < xss.length) : gl xss k ∈ xss := by rw [gl_eq h]; exact List.getElem_mem h
theorem gl_ext {xs ys : List (List Int)} (hl : xs.length = ys.length) (h : ∀ j, j < xs.length → gl xs j = gl ys j) : xs = ys := by
  apply List.ext_getElem hl
  intro i h1 h2
  have := h i h1
  rwa [gl_eq h1, gl_eq h2] at this
theorem take_gl {xss : List (List Int)} {k : Nat} (h : k < xss.length) : xss.take (k + 1) = xss.take k ++ [gl xss k] := by
  rw [List.take_succ_eq_append_getElem h, gl_eq h]
theorem drop_gl {xss : List (List Int)} {k : Nat} (h : k < xss.length) : xss.drop k = gl xss k :: xss.drop (k + 1) := by
  rw [List.drop_eq_getElem_cons h, gl_eq h]

/-- The slice value v reads as the rows xss; all blocks lie below B. -/
def SlS (w : World) (B : Nat) (v : Value) (xss : List (List Int)) : Prop :=
  ∃ A c, v = .slice A xss.length c ∧ xss.length ≤ c ∧ c ≤ maxLen ∧ (A = none → c = 0) ∧
    (0 < xss.length → ∃ b off, A = some ⟨b, off, none⟩ ∧ b < B ∧ ∀ k, k < xss.length → ∃ u, w.cell? ⟨b, off + k, none⟩ = some u ∧ Sl w B u (gl xss k))
theorem SlS.keep {w w' : World} {B : Nat} {v : Value} {xss : List (List Int)} (h : SlS w B v xss) (hk : ∀ p : Addr, p.block < B → w'.cell? p = w.cell? p) : SlS w' B v xss := by
  obtain ⟨A, c, h1, h2, h3, h4, h5⟩ := h
  refine ⟨A, c, h1, h2, h3, h4, fun hp => ?_⟩
  obtain ⟨b, off, e, hb, hc⟩ := h5 hp
  refine ⟨b, off, e, hb, fun k hk' => ?_⟩
  obtain ⟨u, hu, hs⟩ := hc k hk'
  exact ⟨u, by rw [hk _ hb]; exact hu, hs.keep hk⟩
theorem SlS.below {w w' : World} {B B' : Nat} {v : Value} {xss : List (List Int)} (h : SlS w B v xss) (hb : Below B' w w') (hB : B ≤ B') : SlS w' B v xss :=
  h.keep fun _ hp => hb.cell (by omega)
theorem SlS.mono {w : World} {B B' : Nat} {v : Value} {xss : List (List Int)} (h : SlS w B v xss) (hB : B ≤ B') : SlS w B' v xss := by
  obtain ⟨A, c, h1, h2, h3, h4, h5⟩ := h
  refine ⟨A, c, h1, h2, h3, h4, fun hp => ?_⟩
  obtain ⟨b, off, e, hb, hc⟩ := h5 hp
  refine ⟨b, off, e, by omega, fun k hk' => ?_⟩
  obtain ⟨u, hu, hs⟩ := hc k hk'
  exact ⟨u, hu, hs.mono hB⟩
theorem SlS.drewN {w : World} {B : Nat} {v : Value} {xss : List (List Int)} (h : SlS w B v xss) (n : Nat) : SlS (w.drewN n) B v xss := h
theorem SlS.nil (w : World) (B : Nat) : SlS w B (.slice none 0 0) [] := ⟨none, 0, rfl, Nat.le_refl _, by simp [maxLen], fun _ => rfl, fun h => absurd h (by simp)⟩

/-- Rows that the call has made: their blocks lie in S, each row's apart from the others'. -/
def OwS (w : World) (S : Nat → Prop) (v : Value) (xss : List (List Int)) : Prop :=
  ∃ (vs : List Value) (tag : Nat → Nat), w.ownsRow 0 24 1 v xss.length vs ∧ (∀ g, v.ownBlock = some g → S g ∧ tag g = 0) ∧ vs.length = xss.length ∧
    ∀ k u, vs[k]? = some u → (rw_ u (gl xss k)).p w (fun b => S b ∧ tag b = k + 1)
theorem ownsRow_keep {w w' : World} {e : TypeId} {size lo : Nat} {v : Value} {n : Nat} {us : List Value} (h : w.ownsRow lo e size v n us) (hk : ∀ g, v.ownBlock = some g → w'.heap[g]? = w.heap[g]?) : w'.ownsRow lo e size v n us := by
  obtain ⟨h1, h2⟩ := h
  refine ⟨h1, ?_⟩
  rcases h2 with h2 | ⟨g, cap, cur, rfl, hlo, hh, r⟩
  · exact .inl h2
  · exact .inr ⟨g, cap, cur, rfl, hlo, by rw [hk g rfl]; exact hh, r⟩
theorem OwS.keep {w w' : World} {S : Nat → Prop} {v : Value} {xss : List (List Int)} (h : OwS w S v xss) (hk : ∀ k, S k → w'.heap[k]? = w.heap[k]?) : OwS w' S v xss := by
  obtain ⟨vs, tag, h1, h2, h3, h4⟩ := h
  exact ⟨vs, tag, ownsRow_keep h1 fun g hg => hk g (h2 g hg).1, h2, h3, fun k u hu => (rw_ u (gl xss k)).keep (h4 k u hu) fun b hb => hk b hb.1⟩
theorem OwS.mono {w : World} {S S' : Nat → Prop} {v : Value} {xss : List (List Int)} (h : OwS w S v xss) (hs : ∀ k, S k → S' k) : OwS w S' v xss := by
  obtain ⟨vs, tag, h1, h2, h3, h4⟩ := h
  exact ⟨vs, tag, h1, fun g hg => ⟨hs g (h2 g hg).1, (h2 g hg).2⟩, h3, fun k u hu => ⟨(h4 k u hu).1, fun g hg => ⟨hs g ((h4 k u hu).2 g hg).1, ((h4 k u hu).2 g hg).2⟩⟩⟩
def rws_ (v : Value) (xss : List (List Int)) : Itm := ⟨fun w S => OwS w S v xss, fun h hk => h.keep hk⟩
theorem OwS.sl {w : World} {S : Nat → Prop} {B : Nat} {v : Value} {xss : List (List Int)} (h : OwS w S v xss) (hB : ∀ b, S b → b < B) : SlS w B v xss := by
  obtain ⟨vs, tag, h1, h2, h3, h4⟩ := h
  have h1' := h1
  rcases h1.2 with ⟨rfl, h0⟩ | ⟨g, cap, cur, rfl, hlo, hh, hn, hcap, hsz, htake⟩
  · rw [List.eq_nil_of_length_eq_zero h0]
    exact SlS.nil w B
  · refine ⟨_, cap, rfl, hn, hcap, (by simp), fun hp => ⟨g, 0, rfl, hB g (h2 g rfl).1, fun k hk => ?_⟩⟩
    obtain ⟨u, hu⟩ : ∃ u, vs[k]? = some u := ⟨vs[k], List.getElem?_eq_getElem (by omega)⟩
    refine ⟨u, ?_, ?_⟩
    · rw [Nat.zero_add, h1'.cellAt k (by omega), hu]
    · obtain ⟨a, b, ho, hab, hS⟩ := ow_of_rw (h4 k u hu)
      rcases hab with h5 | h5
      · exact ho.sl (by omega)
      · exact ho.sl (by have := hB _ (hS (b - 1) (by omega) (by omega)).1; omega)
theorem OwS.nil (w : World) (S : Nat → Prop) : OwS w S (.slice none 0 0) [] := ⟨[], fun _ => 0, World.ownsRow_nil w 0 _ 1, by simp [Value.ownBlock], rfl, fun k u h => by simp at h⟩
theorem rw_nil (w : World) (S : Nat → Prop) : (rw_ (.slice none 0 0) []).p w S := ⟨World.ownsRow_nil w 0 _ 1, by simp [Value.ownBlock]⟩
/-- From a row of slices that reads as nil slices. -/
theorem OwS.nils {w : World} {S : Nat → Prop} {v : Value} {n : Nat} (h : w.ownsRow 0 24 1 v n (List.replicate n (.slice none 0 0))) (hs : ∀ g, v.ownBlock = some g → S g) : OwS w S v (List.replicate n []) := by
  refine ⟨List.replicate n (.slice none 0 0), fun _ => 0, by rw [List.length_replicate]; exact h, fun g hg => ⟨hs g hg, rfl⟩, by simp, fun k u hu => ?_⟩
  have hk : k < n := by have := (List.getElem?_eq_some_iff.1 hu).1; simpa using this
  rw [List.getElem?_replicate, if_pos hk] at hu
  injection hu with hu
  subst hu
  rw [show gl (List.replicate n []) k = [] by rw [gl_eq (by simpa using hk)]; simp]
  exact rw_nil _ _
theorem Hs.rdS {w : World} {lo : Nat} (L1 : List Itm) {v : Value} {xss : List (List Int)} (L2 : List Itm) (h : Hs w lo (L1 ++ rws_ v xss :: L2)) : SlS w w.heap.size v xss := by
  obtain ⟨S, hp, c, _⟩ := h.at_ L1 (rws_ v xss) L2
  exact OwS.sl hp fun b hb => (c b hb).2
/-- Rows in an interval of blocks. -/
def Iv (lo hi : Nat) : Nat → Prop := fun b => lo ≤ b ∧ b < hi
theorem hs_ows {w w' : World} {v : Value} {xss : List (List Int)} (h : OwS w' (Iv w.heap.size w'.heap.size) v xss) (hb : Below w.heap.size w w') : Hs w' w.heap.size [rws_ v xss] :=
  Hs.one (t := rws_ v xss) hb.size h fun _ hk => hk
theorem OwS.below {w w' : World} {B lo hi : Nat} {v : Value} {xss : List (List Int)} (h : OwS w (Iv lo hi) v xss) (hb : Below B w w') (hB : hi ≤ B) : OwS w' (Iv lo hi) v xss :=
  h.keep fun k hk => hb.block k (by have := hk.2; omega)
/-- A row is put to the end: the outer row has been appended to. -/
theorem OwS.push {w w' : World} {lo hi : Nat} {v v' u : Value} {xss : List (List Int)} {xs : List Int} (h : OwS w (Iv lo hi) v xss) (hu : Ow w hi w.heap.size u xs) (hhi : hi ≤ w.heap.size)
    (hg : w.grownBy w' v.ownBlock) (hl : v'.ownBlock = v.ownBlock ∨ ∀ g, v'.ownBlock = some g → w.heap.size ≤ g)
    (hv : ∀ vs, w.ownsRow 0 24 1 v xss.length vs → w'.ownsRow 0 24 1 v' (xss.length + 1) (vs ++ [u])) (hlo : lo ≤ hi) : OwS w' (Iv lo w'.heap.size) v' (xss ++ [xs]) := by
  obtain ⟨vs, tag, h1, h2, h3, h4⟩ := h
  have hv' := hv vs h1
  have hsz := hg.size
  refine ⟨vs ++ [u], fun b => if w.heap.size ≤ b then 0 else if hi ≤ b then xss.length + 1 else tag b, by rw [List.length_append]; exact hv', fun g hgv => ?_, by simp [h3], fun k x hx => ?_⟩
  · have hlt := (hv'.lt g hgv).2
    rcases hl with e | e
    · rw [e] at hgv
      obtain ⟨⟨a, b⟩, c⟩ := h2 g hgv
      refine ⟨⟨a, hlt⟩, ?_⟩
      simp only
      rw [if_neg (by omega), if_neg (by omega)]
      exact c
    · have := e g hgv
      exact ⟨⟨by omega, hlt⟩, by simp only; rw [if_pos this]⟩
  · by_cases hk : k < vs.length
    · rw [List.getElem?_append_left hk] at hx
      have hgl : gl (xss ++ [xs]) k = gl xss k := by
        rw [gl_eq (by simp; omega), gl_eq (by omega), List.getElem_append_left (by omega)]
      rw [hgl]
      have h5 := h4 k x hx
      refine ⟨ownsRow_keep h5.1 fun g hgx => hg.block g (by have := (h5.2 g hgx).1.2; omega) fun e => ?_, fun g hgx => ?_⟩
      · have h6 := (h5.2 g hgx).2
        have h7 := (h2 g e.symm).2
        omega
      · obtain ⟨⟨a, b⟩, c⟩ := h5.2 g hgx
        refine ⟨⟨a, by omega⟩, ?_⟩
        simp only
        rw [if_neg (by omega), if_neg (by omega)]
        exact c
    · have hkl : k < (vs ++ [u]).length := (List.getElem?_eq_some_iff.1 hx).1
      simp at hkl
      obtain rfl : k = vs.length := by omega
      rw [List.getElem?_append_right (Nat.le_refl _)] at hx
      simp at hx
      subst hx
      have hgl : gl (xss ++ [xs]) vs.length = xs := by rw [h3, gl_eq (by simp)]; simp
      rw [hgl]
      have h5 := rw_of_ow hu
      refine ⟨ownsRow_keep h5.1 fun g hgx => hg.block g (h5.2 g hgx).2 fun e => ?_, fun g hgx => ?_⟩
      · have h6 := h5.2 g hgx
        have h7 := (h2 g e.symm).1
        have := h7.2
        omega
      · have h6 := h5.2 g hgx
        refine ⟨⟨by omega, by omega⟩, ?_⟩
        simp only
        rw [if_neg (by omega), if_pos h6.1, h3]
end Go.Proofs.Ytcinnbkhnonijaa
/-
  Contracts of the laws' own helpers on [][]int64: toInt64SS, eqInt64SS, szInt64SS, markInt64SS, heldInt64SS.
-/
namespace Go.Proofs.Ytcinnbkhnonijaa
set_option maxRecDepth 10000
open Go.RowKit

/-- How many numbers lie in the rows. -/
theorem sl_info : (Try.prog.info? 24).map (fun i => (i.zero, i.size, i.bytes)) = some (some (.slice none 0 0), 1, 24) := by kernel_rfl
def lenSS : List (List Int) → Nat
  | [] => 0
  | xs :: r => xs.length + lenSS r
theorem lenSS_snoc (l : List (List Int)) (xs : List Int) : lenSS (l ++ [xs]) = lenSS l + xs.length := by
  induction l with
  | nil => simp [lenSS]
  | cons a l ih => simp [lenSS, ih]; omega
theorem lenSS_append (l r : List (List Int)) : lenSS (l ++ r) = lenSS l + lenSS r := by
  induction l with
  | nil => simp [lenSS]
  | cons a l ih => simp [lenSS, ih]; omega
theorem lenSS_take {xss : List (List Int)} {k : Nat} (h : k < xss.length) : lenSS (xss.take (k + 1)) = lenSS (xss.take k) + (gl xss k).length := by rw [take_gl h, lenSS_snoc]
theorem lenSS_take_le (xss : List (List Int)) (k : Nat) : lenSS (xss.take k) ≤ lenSS xss := by
  conv => rhs; rw [← List.take_append_drop k xss, lenSS_append]
  omega
theorem lenSS_row {xss : List (List Int)} {k : Nat} (h : k < xss.length) : lenSS (xss.take k) + (gl xss k).length ≤ lenSS xss := by rw [← lenSS_take h]; exact lenSS_take_le _ _
/-- What markInt64SS leaves. -/
def markSS (c : Int) : List (List Int) → List (List Int)
  | [] => []
  | xs :: r => countFrom c xs.length :: markSS (c + xs.length) r
theorem markSS_len (c : Int) (xss : List (List Int)) : (markSS c xss).length = xss.length := by
  induction xss generalizing c with
  | nil => rfl
  | cons a l ih => simp [markSS, ih]
theorem markSS_snoc (c : Int) (l : List (List Int)) (xs : List Int) : markSS c (l ++ [xs]) = markSS c l ++ [countFrom (c + lenSS l) xs.length] := by
  induction l generalizing c with
  | nil => simp [markSS, lenSS]
  | cons a l ih => simp [markSS, lenSS, ih]; congr 1; omega
theorem markSS_gl (c : Int) (xss : List (List Int)) (k : Nat) (h : k < xss.length) : gl (markSS c xss) k = countFrom (c + lenSS (xss.take k)) (gl xss k).length := by
  induction xss generalizing c k with
  | nil => simp at h
  | cons a l ih =>
    cases k with
    | zero => simp [markSS, gl, lenSS]
    | succ k =>
      have := ih (c + a.length) k (by simpa using h)
      simp only [gl, markSS, List.getD_cons_succ, List.take_succ_cons, lenSS] at this ⊢
      rw [this]
      congr 1
      omega
theorem lenSS_mark (c : Int) (xss : List (List Int)) : lenSS (markSS c xss) = lenSS xss := by
  induction xss generalizing c with
  | nil => rfl
  | cons a l ih => simp [markSS, lenSS, ih, countFrom_len]
/-- Rows of which the first k have been marked. -/
def markedSS (c : Int) (xss : List (List Int)) (k : Nat) : List (List Int) := markSS c (xss.take k) ++ xss.drop k
theorem markedSS_zero (c : Int) (xss : List (List Int)) : markedSS c xss 0 = xss := by simp [markedSS, markSS]
theorem markedSS_all (c : Int) (xss : List (List Int)) : markedSS c xss xss.length = markSS c xss := by simp [markedSS]
theorem markedSS_len (c : Int) (xss : List (List Int)) (k : Nat) (h : k ≤ xss.length) : (markedSS c xss k).length = xss.length := by simp [markedSS, markSS_len]; omega
theorem markedSS_gl (c : Int) (xss : List (List Int)) (k : Nat) (h : k < xss.length) : gl (markedSS c xss k) k = gl xss k := by
  rw [gl_eq (by rw [markedSS_len c xss k (by omega)]; exact h), gl_eq h]
  simp only [markedSS]
  rw [List.getElem_append_right (by rw [markSS_len]; simp; omega)]
  simp only [markSS_len, List.getElem_drop]
  congr 1
  simp; omega
theorem markedSS_set (c : Int) (xss : List (List Int)) (k : Nat) (h : k < xss.length) : (markedSS c xss k).set k (countFrom (c + lenSS (xss.take k)) (gl xss k).length) = markedSS c xss (k + 1) := by
  have hl : (markSS c (xss.take k)).length = k := by rw [markSS_len]; simp; omega
  unfold markedSS
  rw [List.set_append_right _ _ (by omega), hl, Nat.sub_self, drop_gl h, List.set_cons_zero, take_gl h, markSS_snoc]
  simp

/-- One of the rows; another may be put into its place. -/
theorem OwS.at_ {w : World} {S : Nat → Prop} {v : Value} {xss : List (List Int)} (h : OwS w S v xss) (k : Nat) (hk : k < xss.length) (hS : ∀ b, S b → b < w.heap.size) :
    ∃ g cap u a b, v = .slice (some ⟨g, 0, none⟩) xss.length cap ∧ w.cell? ⟨g, k, none⟩ = some u ∧ Ow w a b u (gl xss k) ∧ b ≤ w.heap.size ∧ (∀ j, a ≤ j → j < b → S j) ∧
      ∀ (ys : List Int) (w' : World), Ow w' a b u ys → Chg a b w w' → OwS w' S v (xss.set k ys) := by
  obtain ⟨vs, tag, h1, h2, h3, h4⟩ := h
  have h1' := h1
  rcases h1.2 with ⟨rfl, h0⟩ | ⟨g, cap, cur, rfl, hlo, hh, hn, hcap, hsz, htake⟩
  · omega
  · obtain ⟨u, hu⟩ : ∃ u, vs[k]? = some u := ⟨vs[k], List.getElem?_eq_getElem (by omega)⟩
    obtain ⟨a, b, ho, hab, hSj⟩ := ow_of_rw (h4 k u hu)
    have hb : b ≤ w.heap.size := by
      rcases hab with h5 | h5
      · omega
      · have := hS _ (hSj (b - 1) (by omega) (by omega)).1; omega
    refine ⟨g, cap, u, a, b, rfl, by rw [h1'.cellAt k (by omega), hu], ho, hb, fun j h5 h6 => (hSj j h5 h6).1, fun ys w' ho' hc => ?_⟩
    have hg := h2 g rfl
    have hgo : ¬ (a ≤ g ∧ g < b) := fun hc => by have := (hSj g hc.1 hc.2).2; omega
    refine ⟨vs, tag, ?_, h2, by simp [h3], fun j x hx => ?_⟩
    · rw [List.length_set]
      exact ownsRow_keep h1' fun g' hg' => by simp [Value.ownBlock] at hg'; subst hg'; exact hc.block g (hS g hg.1) (by omega)
    · by_cases hjk : j = k
      · subst hjk
        rw [hu] at hx
        injection hx with hx
        subst hx
        rw [show gl (xss.set j ys) j = ys by rw [gl_eq (by rw [List.length_set]; exact hk)]; simp]
        have h5 := rw_of_ow ho'
        exact ⟨h5.1, fun g' hg' => hSj g' (h5.2 g' hg').1 (h5.2 g' hg').2⟩
      · have hjl : j < xss.length := by have := (List.getElem?_eq_some_iff.1 hx).1; omega
        rw [show gl (xss.set k ys) j = gl xss j by rw [gl_eq (by rw [List.length_set]; exact hjl), gl_eq hjl, List.getElem_set_ne (by omega)]]
        have h5 := h4 j x hx
        refine (rw_ x (gl xss j)).keep h5 fun b' hb' => hc.block b' (hS b' hb'.1) ?_
        by_cases h6 : a ≤ b' ∧ b' < b
        · have h7 := (hSj b' h6.1 h6.2).2
          have := hb'.2
          omega
        · omega
/-- A row is stored into the outer row. -/
theorem OwS.set_ {w : World} {lo hi : Nat} {v u : Value} {xss : List (List Int)} {xs : List Int} (h : OwS w (Iv lo hi) v xss) (k : Nat) (hk : k < xss.length) (hu : Ow w hi w.heap.size u xs) (hhi : hi ≤ w.heap.size) :
    ∃ g cap x, v = .slice (some ⟨g, 0, none⟩) xss.length cap ∧ lo ≤ g ∧ g < hi ∧ w.cell? ⟨g, k, none⟩ = some x ∧ w.frozen? ⟨g, k, none⟩ = false ∧
      OwS (w.setCell ⟨g, k, none⟩ u) (Iv lo (w.setCell ⟨g, k, none⟩ u).heap.size) v (xss.set k xs) ∧ Chg lo hi w (w.setCell ⟨g, k, none⟩ u) := by
  obtain ⟨vs, tag, h1, h2, h3, h4⟩ := h
  have h1' := h1
  rcases h1.2 with ⟨rfl, h0⟩ | ⟨g, cap, cur, rfl, hlo, hh, hn, hcap, hsz, htake⟩
  · omega
  · obtain ⟨x, hx⟩ : ∃ x, vs[k]? = some x := ⟨vs[k], List.getElem?_eq_getElem (by omega)⟩
    have hg := h2 g rfl
    have hs := h1'.stored k u
    refine ⟨g, cap, x, rfl, hg.1.1, hg.1.2, by rw [h1'.cellAt k (by omega), hx], h1'.frozenAt k, ?_, ⟨rfl, rfl, rfl, by simp [World.setCell], fun j _ hj2 => Below.heap_setCell _ _ _ _ (by have := hg.1.1; have := hg.1.2; simp only; omega)⟩⟩
    have hsz : (w.setCell ⟨g, k, none⟩ u).heap.size = w.heap.size := by simp [World.setCell]
    refine ⟨vs.set k u, fun b => if hi ≤ b then k + 1 else if tag b = k + 1 then 0 else tag b, by rw [List.length_set]; exact hs.1, fun g' hg' => ?_, by simp [h3], fun j y hy => ?_⟩
    · simp [Value.ownBlock] at hg'
      subst hg'
      refine ⟨⟨hg.1.1, by rw [hsz]; have := hg.1.2; omega⟩, ?_⟩
      simp only
      rw [if_neg (by have := hg.1.2; omega), if_neg (by have := hg.2; omega)]
      exact hg.2
    · by_cases hjk : j = k
      · subst hjk
        rw [List.getElem?_set_self (by omega)] at hy
        injection hy with hy
        subst hy
        rw [show gl (xss.set j xs) j = xs by rw [gl_eq (by rw [List.length_set]; exact hk)]; simp]
        have h5 := rw_of_ow hu
        refine ⟨ownsRow_keep h5.1 fun g' hg' => Below.heap_setCell _ _ _ _ (by have := (h5.2 g' hg').1; have := hg.1.2; simp only; omega), fun g' hg' => ?_⟩
        have h6 := h5.2 g' hg'
        refine ⟨⟨by have := hg.1.1; have := hg.1.2; omega, by rw [hsz]; exact h6.2⟩, ?_⟩
        simp only
        rw [if_pos h6.1]
      · have hjl : j < vs.length := by have := (List.getElem?_eq_some_iff.1 hy).1; simpa using this
        rw [List.getElem?_set_ne (by omega)] at hy
        rw [show gl (xss.set k xs) j = gl xss j by rw [gl_eq (by rw [List.length_set]; omega), gl_eq (by omega), List.getElem_set_ne (by omega)]]
        have h5 := h4 j y hy
        refine ⟨ownsRow_keep h5.1 fun g' hg' => Below.heap_setCell _ _ _ _ (fun e => by have h6 := (h5.2 g' hg').2; simp only at e; rw [e] at h6; have := hg.2; omega), fun g' hg' => ?_⟩
        have h6 := h5.2 g' hg'
        refine ⟨⟨h6.1.1, by rw [hsz]; have := h6.1.2; omega⟩, ?_⟩
        simp only
        rw [if_neg (by have := h6.1.2; omega), if_neg (by have := h6.2; omega)]
        exact h6.2
theorem drewN_two (w : World) (n m : Nat) : (w.drewN n).drewN m = w.drewN (n + m) := World.drewN_drewN w n m
end Go.Proofs.Ytcinnbkhnonijaa
/-
  append of a row to rows that the call has made.
-/
namespace Go.Proofs.Ytcinnbkhnonijaa
set_option maxRecDepth 10000
open Go.RowKit

/-- A row is put to the end: the outer row has been appended to. -/
theorem OwS.push2 {w w' : World} {lo hi : Nat} {v v' u : Value} {xss : List (List Int)} {xs : List Int} {vs : List Value} {tag : Nat → Nat} (h2 : ∀ g, v.ownBlock = some g → Iv lo hi g ∧ tag g = 0) (h3 : vs.length = xss.length)
    (h4 : ∀ k u, vs[k]? = some u → (rw_ u (gl xss k)).p w (fun b => Iv lo hi b ∧ tag b = k + 1)) (hu : Ow w hi w.heap.size u xs) (hhi : hi ≤ w.heap.size)
    (hg : w.grownBy w' v.ownBlock) (hl : v'.ownBlock = v.ownBlock ∨ ∀ g, v'.ownBlock = some g → w.heap.size ≤ g)
    (hv' : w'.ownsRow 0 24 1 v' (xss.length + 1) (vs ++ [u])) (hlo : lo ≤ hi) : OwS w' (Iv lo w'.heap.size) v' (xss ++ [xs]) := by
  have hsz := hg.size
  refine ⟨vs ++ [u], fun b => if w.heap.size ≤ b then 0 else if hi ≤ b then xss.length + 1 else tag b, by rw [List.length_append]; exact hv', fun g hgv => ?_, by simp [h3], fun k x hx => ?_⟩
  · have hlt := (hv'.lt g hgv).2
    rcases hl with e | e
    · rw [e] at hgv
      obtain ⟨⟨a, b⟩, c⟩ := h2 g hgv
      refine ⟨⟨a, hlt⟩, ?_⟩
      simp only
      rw [if_neg (by omega), if_neg (by omega)]
      exact c
    · have := e g hgv
      exact ⟨⟨by omega, hlt⟩, by simp only; rw [if_pos this]⟩
  · by_cases hk : k < vs.length
    · rw [List.getElem?_append_left hk] at hx
      have hgl : gl (xss ++ [xs]) k = gl xss k := by
        rw [gl_eq (by simp; omega), gl_eq (by omega), List.getElem_append_left (by omega)]
      rw [hgl]
      have h5 := h4 k x hx
      refine ⟨ownsRow_keep h5.1 fun g hgx => hg.block g (by have := (h5.2 g hgx).1.2; omega) fun e => ?_, fun g hgx => ?_⟩
      · have h6 := (h5.2 g hgx).2
        have h7 := (h2 g e.symm).2
        omega
      · obtain ⟨⟨a, b⟩, c⟩ := h5.2 g hgx
        refine ⟨⟨a, by omega⟩, ?_⟩
        simp only
        rw [if_neg (by omega), if_neg (by omega)]
        exact c
    · have hkl : k < (vs ++ [u]).length := (List.getElem?_eq_some_iff.1 hx).1
      simp at hkl
      obtain rfl : k = vs.length := by omega
      rw [List.getElem?_append_right (Nat.le_refl _)] at hx
      simp at hx
      subst hx
      have hgl : gl (xss ++ [xs]) vs.length = xs := by rw [h3, gl_eq (by simp)]; simp
      rw [hgl]
      have h5 := rw_of_ow hu
      refine ⟨ownsRow_keep h5.1 fun g hgx => hg.block g (h5.2 g hgx).2 fun e => ?_, fun g hgx => ?_⟩
      · have h6 := h5.2 g hgx
        have h7 := (h2 g e.symm).1
        have := h7.2
        omega
      · have h6 := h5.2 g hgx
        refine ⟨⟨by omega, by omega⟩, ?_⟩
        simp only
        rw [if_neg (by omega), if_pos h6.1, h3]
theorem Ow.one {w : World} {lo hi : Nat} {u : Value} {xs : List Int} (h : Ow w lo hi u xs) : u.oneCell' = true := by
  rcases h.1.2 with ⟨rfl, _⟩ | ⟨g, cap, cur, rfl, _⟩ <;> rfl
theorem wpList_append_row {ops : Array Oper} {rest : List Oper} {o : Oper} {a : Act} {Q : Exit → Act → World → Prop} (hgd : o.guard = none) (s x : Operand)
    (ho : o.op = .call { callee := .builtin .append, args := #[s, x], argTypes := #[57, 57] })
    (w : World) (lo hi : Nat) (v u : Value) (xss : List (List Int)) (xs : List Int) (hs : a.eval s = v) (hx : a.eval x = .slice (some ⟨w.heap.size, 0, none⟩) 1 1)
    (hown : OwS w (Iv lo hi) v xss) (hu : Ow w hi w.heap.size u xs) (hlo : lo ≤ hi) (hhi : hi ≤ w.heap.size) (hlen : xss.length ≤ 1000000)
    (h : ∀ v' w', OwS w' (Iv lo w'.heap.size) v' (xss ++ [xs]) → Below lo w w' → wpList Try.prog ops Q rest (a.put o.dst v') w') :
    wpList Try.prog ops Q (o :: rest) a (w.alloc (.cells #[u] 24)) := by
  obtain ⟨vs, tag, h1, h2, h3, h4⟩ := hown
  refine wpList_append_elem (t := 57) (e := 24) (size := 1) (bytes := 24) (z := .slice none 0 0) Try.underlying57 sl_info rfl (by decide) (by decide) hgd s x ho w 0 w.heap.size v xss.length vs [u] hs hx
    ⟨h1, fun g hg => (h1.lt g hg).2⟩ (Nat.zero_le _) (by omega) rfl (by simp [hu.one]) ?_
  intro v' w' hr hg hl
  refine h v' w' (OwS.push2 h2 h3 h4 hu hhi hg hl hr.1 hlo) ⟨hg.os, hg.tape, hg.output, hg.size, fun k hk => hg.block k (by omega) fun e => ?_⟩
  have := (h2 k e.symm).1.1
  omega
theorem OwS.empty (w : World) : OwS (w.alloc (.cells #[] 24)) (Iv w.heap.size (w.alloc (.cells #[] 24)).heap.size) (.slice (some ⟨w.heap.size, 0, none⟩) 0 0) [] := by
  have h := (OwR.empty 24 1 w)
  refine ⟨[], fun _ => 0, ⟨h.1.1, ?_⟩, fun g hg => ?_, rfl, fun k u hu => by simp at hu⟩
  · rcases h.1.2 with h5 | ⟨g, cap, cur, e, hlo, r⟩
    · exact .inl h5
    · exact .inr ⟨g, cap, cur, e, Nat.zero_le _, r⟩
  · have h5 := h.1.lt g hg
    exact ⟨⟨h5.1, h5.2⟩, rfl⟩
end Go.Proofs.Ytcinnbkhnonijaa
