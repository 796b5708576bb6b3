/-
  Plain law: homomorphisms of groups of words; the action of braid words on the free group; equal braids act in the same way. No program in sight.
-/
import Derived.Test.YtcoocjdkppdlmaaGrp
import Derived.Test.YtcoocjdkppdlmaaAct
namespace Go.Proofs.Ytcoocjdkppdlmaa
set_option maxRecDepth 10000

def IsHom {B B' : List Int → List Int → Prop} (f : GQ B → GQ B') : Prop := ∀ a b, f (a * b) = f a * f b
section
variable {B B' B2 : List Int → List Int → Prop}
theorem IsHom.one {f : GQ B → GQ B'} (h : IsHom f) : f 1 = 1 := by
  apply GQ.right_cancel (a := f 1)
  rw [← h, GQ.one_mul, GQ.one_mul]
theorem IsHom.inv {f : GQ B → GQ B'} (h : IsHom f) (a : GQ B) : f a.inv = (f a).inv := by
  refine (GQ.inv_of ?_).symm
  rw [← h, GQ.mul_inv, h.one]
theorem IsHom.comp {f : GQ B' → GQ B2} {g : GQ B → GQ B'} (hf : IsHom f) (hg : IsHom g) : IsHom fun x => f (g x) := fun a b => by
  show f (g (a * b)) = f (g a) * f (g b)
  rw [hg, hf]
theorem isHom_id : IsHom fun x : GQ B => x := fun _ _ => rfl
theorem mk_hom_ext {f g : GQ B → GQ B'} (hf : IsHom f) (hg : IsHom g) (p : Int → Prop) (h : ∀ j, p j → f (GQ.mk [j]) = g (GQ.mk [j])) (l : List Int) (hl : ∀ x ∈ l, p x) : f (GQ.mk l) = g (GQ.mk l) := by
  induction l with
  | nil => show f 1 = g 1; rw [hf.one, hg.one]
  | cons x l ih =>
    rw [GQ.mk_cons, hf, hg, h x (hl x (by simp)), ih fun y hy => hl y (by simp [hy])]
/-- Two homomorphisms that agree at the generators are equal. -/
theorem hom_ext {f g : GQ B → GQ B'} (hf : IsHom f) (hg : IsHom g) (h : ∀ j : Int, 0 ≤ j → f (GQ.mk [j]) = g (GQ.mk [j])) (x : GQ B) : f x = g x := by
  refine GQ.ind (p := fun x => f x = g x) (fun l => ?_) x
  refine mk_hom_ext hf hg (fun _ => True) (fun j _ => ?_) l fun _ _ => trivial
  by_cases hj : 0 ≤ j
  · exact h j hj
  · have := h (-j) (by omega)
    rw [GQ.mk_neg, hf.inv, hg.inv] at this
    rw [← GQ.inv_inv (f _), this, GQ.inv_inv]
/-- The product of the images of a word's letters. -/
def ev (f : Int → GQ B') : List Int → GQ B'
  | [] => 1
  | x :: l => f x * ev f l
theorem ev_append (f : Int → GQ B') (a b : List Int) : ev f (a ++ b) = ev f a * ev f b := by
  induction a with
  | nil => simp [ev]
  | cons x a ih => simp [ev, ih, GQ.mul_assoc]
theorem ev_gen (f : Int → GQ B') (hn : ∀ x, f (-x) = (f x).inv) (hb : ∀ a b, B a b → ev f a = ev f b) {a b : List Int} (h : Gen B a b) : ev f a = ev f b := by
  induction h with
  | refl a => rfl
  | symm _ ih => exact ih.symm
  | trans _ _ i1 i2 => exact i1.trans i2
  | cong _ _ i1 i2 => rw [ev_append, ev_append, i1, i2]
  | can x => simp [ev, hn]
  | base h => exact hb _ _ h
def lift (f : Int → GQ B') (hn : ∀ x, f (-x) = (f x).inv) (hb : ∀ a b, B a b → ev f a = ev f b) : GQ B → GQ B' :=
  Quotient.lift (s := gSet B) (ev f) fun _ _ h => ev_gen f hn hb h
theorem lift_mk (f : Int → GQ B') (hn : ∀ x, f (-x) = (f x).inv) (hb : ∀ a b, B a b → ev f a = ev f b) (l : List Int) : lift f hn hb (GQ.mk l) = ev f l := rfl
theorem lift_one (f : Int → GQ B') (hn : ∀ x, f (-x) = (f x).inv) (hb : ∀ a b, B a b → ev f a = ev f b) (j : Int) : lift f hn hb (GQ.mk [j]) = f j := GQ.mul_one _
theorem lift_hom (f : Int → GQ B') (hn : ∀ x, f (-x) = (f x).inv) (hb : ∀ a b, B a b → ev f a = ev f b) : IsHom (lift f hn hb) := fun a b => by
  refine GQ.ind (p := fun a => lift f hn hb (a * b) = lift f hn hb a * lift f hn hb b) (fun a => ?_) a
  refine GQ.ind (p := fun b => lift f hn hb (GQ.mk a * b) = lift f hn hb (GQ.mk a) * lift f hn hb b) (fun b => ?_) b
  rw [← GQ.mk_append, lift_mk, lift_mk, lift_mk, ev_append]
end
def gx (j : Int) : FG := GQ.mk [j]
theorem gx_neg (j : Int) : gx (-j) = (gx j).inv := rfl
theorem imgL_neg {l : Int} (hl : l ≠ 0) (g : Int) : imgL l (-g) = inv (imgL l g) := by
  have e : ab (-g) = ab g := by unfold ab; omega
  unfold imgL
  rw [e]
  by_cases h1 : ab g = ab l
  · rw [if_pos h1, if_pos h1]
    have : g ≠ 0 := by unfold ab at h1; omega
    by_cases h2 : 0 < g
    · rw [if_neg (by omega), if_pos h2]
    · rw [if_pos (by omega), if_neg h2, inv_inv]
  · rw [if_neg h1, if_neg h1]
    by_cases h3 : ab g = ab l + 1
    · rw [if_pos h3, if_pos h3]
      have : g ≠ 0 := by unfold ab at h3; omega
      by_cases h2 : 0 < g
      · rw [if_neg (by omega), if_pos h2]
      · rw [if_pos (by omega), if_neg h2, inv_inv]
    · rw [if_neg h3, if_neg h3]; rfl
/-- The automorphism of a letter that is not zero (of zero: none). -/
def SL (l : Int) : FG → FG :=
  if h : l ≠ 0 then lift (fun g => GQ.mk (imgL l g)) (fun x => by rw [imgL_neg h]; rfl) (fun _ _ h => h.elim) else fun x => x
theorem SL_hom (l : Int) : IsHom (SL l) := by
  unfold SL
  split
  · exact lift_hom _ _ _
  · exact isHom_id
theorem SL_one {l : Int} (h : l ≠ 0) (j : Int) : SL l (gx j) = GQ.mk (imgL l j) := by
  unfold SL; rw [dif_pos h]; exact lift_one _ _ _ _
theorem ev_flat {B : List Int → List Int → Prop} (f : Int → List Int) (xs : List Int) : ev (fun g => (GQ.mk (f g) : GQ B)) xs = GQ.mk (xs.flatMap f) := by
  induction xs with
  | nil => rfl
  | cons x xs ih => rw [ev, ih, List.flatMap_cons]; rfl
theorem mk_red (xs : List Int) : (GQ.mk (red xs) : FG) = GQ.mk xs := GQ.eq.2 (gen_red xs).symm
/-- The letter's action on words, and its automorphism. -/
theorem SL_act {l : Int} (h : l ≠ 0) (xs : List Int) : SL l (GQ.mk xs) = GQ.mk (actW l xs) := by
  unfold SL; rw [dif_pos h, lift_mk, ev_flat]
  exact (mk_red _).symm
theorem ab_pos_ {l : Int} (h : 0 < l) : ab l = l := by unfold ab; omega
theorem ab_neg_ {l : Int} (h : 0 < l) : ab (-l) = l := by unfold ab; omega
theorem SP_1 {i : Int} (h : 0 < i) : SL i (gx i) = gx i * gx (i + 1) * (gx i).inv := by
  rw [SL_one (by omega), imgL, if_pos rfl, if_pos h, im1, if_pos h, ab_pos_ h]; rfl
theorem SP_2 {i : Int} (h : 0 < i) : SL i (gx (i + 1)) = gx i := by
  rw [SL_one (by omega), imgL, if_neg (by unfold ab; omega), if_pos (by unfold ab; omega), if_pos (by omega), im2, if_pos h, ab_pos_ h]; rfl
theorem SP_3 {i j : Int} (h : 0 < i) (hj : 0 ≤ j) (h1 : j ≠ i) (h2 : j ≠ i + 1) : SL i (gx j) = gx j := by
  rw [SL_one (by omega), imgL, if_neg (by unfold ab; omega), if_neg (by unfold ab; omega)]; rfl
theorem SN_1 {i : Int} (h : 0 < i) : SL (-i) (gx i) = gx (i + 1) := by
  rw [SL_one (by omega), imgL, if_pos (by unfold ab; omega), if_pos h, im1, if_neg (by omega), ab_neg_ h]; rfl
theorem SN_2 {i : Int} (h : 0 < i) : SL (-i) (gx (i + 1)) = (gx (i + 1)).inv * gx i * gx (i + 1) := by
  rw [SL_one (by omega), imgL, if_neg (by unfold ab; omega), if_pos (by unfold ab; omega), if_pos (by omega), im2, if_neg (by omega), ab_neg_ h, show -i - 1 = -(i + 1) by omega]; rfl
theorem SN_3 {i j : Int} (h : 0 < i) (hj : 0 ≤ j) (h1 : j ≠ i) (h2 : j ≠ i + 1) : SL (-i) (gx j) = gx j := by
  rw [SL_one (by omega), imgL, if_neg (by unfold ab; omega), if_neg (by unfold ab; omega)]; rfl
theorem SL_PN {i : Int} (h : 0 < i) (x : FG) : SL i (SL (-i) x) = x := by
  refine hom_ext ((SL_hom i).comp (SL_hom (-i))) isHom_id (fun j hj => ?_) x
  show SL i (SL (-i) (gx j)) = gx j
  by_cases h1 : j = i
  · subst h1; rw [SN_1 h, SP_2 h]
  · by_cases h2 : j = i + 1
    · subst h2
      rw [SN_2 h, SL_hom, SL_hom, (SL_hom i).inv, SP_2 h, SP_1 h]
      simp [GQ.mul_assoc]
    · rw [SN_3 h hj h1 h2, SP_3 h hj h1 h2]
theorem SL_NP {i : Int} (h : 0 < i) (x : FG) : SL (-i) (SL i x) = x := by
  refine hom_ext ((SL_hom (-i)).comp (SL_hom i)) isHom_id (fun j hj => ?_) x
  show SL (-i) (SL i (gx j)) = gx j
  by_cases h1 : j = i
  · subst h1
    rw [SP_1 h, SL_hom, SL_hom, (SL_hom _).inv, SN_1 h, SN_2 h]
    simp [GQ.mul_assoc]
  · by_cases h2 : j = i + 1
    · subst h2; rw [SP_2 h, SN_1 h]
    · rw [SP_3 h hj h1 h2, SN_3 h hj h1 h2]
theorem SL_can (l : Int) (x : FG) : SL (-l) (SL l x) = x := by
  by_cases h0 : l = 0
  · subst h0; unfold SL; simp
  · by_cases h : 0 < l
    · exact SL_NP h x
    · have := SL_PN (i := -l) (by omega) x
      rwa [Int.neg_neg] at this
theorem SL_comm {i j : Int} (hi : 0 < i) (hij : i + 2 ≤ j) (x : FG) : SL j (SL i x) = SL i (SL j x) := by
  have hj : 0 < j := by omega
  refine hom_ext ((SL_hom j).comp (SL_hom i)) ((SL_hom i).comp (SL_hom j)) (fun k hk => ?_) x
  show SL j (SL i (gx k)) = SL i (SL j (gx k))
  by_cases h1 : k = i
  · subst h1
    rw [SP_1 hi, SL_hom, SL_hom, (SL_hom _).inv, SP_3 hj hk (by omega) (by omega), SP_3 hj (by omega) (by omega) (by omega), SP_1 hi]
  · by_cases h2 : k = i + 1
    · subst h2
      rw [SP_2 hi, SP_3 hj (by omega) (by omega) (by omega), SP_3 hj (by omega) (by omega) (by omega), SP_2 hi]
    · rw [SP_3 hi hk h1 h2]
      by_cases h3 : k = j
      · subst h3
        rw [SP_1 hj, SL_hom, SL_hom, (SL_hom _).inv, SP_3 hi hk h1 h2, SP_3 hi (by omega) (by omega) (by omega)]
      · by_cases h4 : k = j + 1
        · subst h4
          rw [SP_2 hj, SP_3 hi (by omega) (by omega) (by omega)]
        · rw [SP_3 hj hk h3 h4, SP_3 hi hk h1 h2]
theorem SL_braid {i : Int} (hi : 0 < i) (x : FG) : SL i (SL (i + 1) (SL i x)) = SL (i + 1) (SL i (SL (i + 1) x)) := by
  have hj : 0 < i + 1 := by omega
  refine hom_ext ((SL_hom i).comp ((SL_hom (i + 1)).comp (SL_hom i))) ((SL_hom (i + 1)).comp ((SL_hom i).comp (SL_hom (i + 1)))) (fun k hk => ?_) x
  show SL i (SL (i + 1) (SL i (gx k))) = SL (i + 1) (SL i (SL (i + 1) (gx k)))
  have e1 := SP_1 hi
  have e2 := SP_2 hi
  have e3 : SL i (gx (i + 1 + 1)) = gx (i + 1 + 1) := SP_3 hi (by omega) (by omega) (by omega)
  have f1 := SP_1 hj
  have f2 := SP_2 hj
  have f3 : SL (i + 1) (gx i) = gx i := SP_3 hj (by omega) (by omega) (by omega)
  by_cases h1 : k = i
  · subst h1
    simp only [e1, e2, e3, f1, f3, SL_hom _ _ _, (SL_hom _).inv]
    simp [GQ.mul_assoc]
  · by_cases h2 : k = i + 1
    · subst h2
      simp only [e1, e2, e3, f1, f2, f3, SL_hom _ _ _, (SL_hom _).inv]
    · by_cases h3 : k = i + 1 + 1
      · subst h3
        simp only [e2, e3, f2, f3]
      · rw [SP_3 hi hk h1 h2, SP_3 hj hk h2 h3, SP_3 hi hk h1 h2]
        rw [SP_3 hj hk h2 h3]
/-- The relations of braids on n strands. -/
inductive BrR (n : Int) : List Int → List Int → Prop
  | comm (i j : Int) : 0 < i → i + 2 ≤ j → j < n → BrR n [i, j] [j, i]
  | braid (i : Int) : 0 < i → i + 1 < n → BrR n [i, i + 1, i] [i + 1, i, i + 1]
theorem BrR.mono {m n : Int} (h : m ≤ n) {a b : List Int} (k : BrR m a b) : BrR n a b := by
  cases k with
  | comm i j h1 h2 h3 => exact .comm i j h1 h2 (by omega)
  | braid i h1 h2 => exact .braid i h1 (by omega)
/-- The action of a word: its letters' automorphisms, one behind the other. -/
def phi : List Int → FG → FG
  | [], x => x
  | l :: w, x => phi w (SL l x)
theorem phi_append (a b : List Int) (x : FG) : phi (a ++ b) x = phi b (phi a x) := by
  induction a generalizing x with
  | nil => rfl
  | cons l a ih => exact ih _
theorem phi_hom (w : List Int) : IsHom (phi w) := by
  induction w with
  | nil => exact isHom_id
  | cons l w ih => exact ih.comp (SL_hom l)
/-- Equal braids act in the same way. -/
theorem phi_gen {n : Int} {a b : List Int} (h : Gen (BrR n) a b) : phi a = phi b := by
  induction h with
  | refl a => rfl
  | symm _ ih => exact ih.symm
  | trans _ _ i1 i2 => exact i1.trans i2
  | cong _ _ i1 i2 => funext x; rw [phi_append, phi_append, i1, i2]
  | can x => funext y; exact SL_can x y
  | base h =>
    funext x
    cases h with
    | comm i j h1 h2 h3 => exact SL_comm h1 h2 x
    | braid i h1 h2 => exact SL_braid h1 x
theorem phi_inv (w : List Int) (x : FG) : phi (inv w) (phi w x) = x := by
  have := congrFun (phi_gen (Gen.inv_r (B := BrR 0) w)) x
  rw [phi_append] at this
  exact this
theorem phi_inv' (w : List Int) (x : FG) : phi w (phi (inv w) x) = x := by
  have := phi_inv (inv w) x
  rwa [inv_inv] at this
end Go.Proofs.Ytcoocjdkppdlmaa
