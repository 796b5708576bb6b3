/-
  Plain law: words modulo relations and cancelling (Gen), and their group (GQ). No program in sight.
-/
import Derived.Test.YtcinnbkhnonijaaFg
import Derived.Test.YtcinnbkhnonijaaAct
namespace Go.Proofs.Ytcinnbkhnonijaa
set_option maxRecDepth 10000

/-- Words that relations and cancelling make equal. -/
inductive Gen (B : List Int → List Int → Prop) : List Int → List Int → Prop
  | refl (a : List Int) : Gen B a a
  | symm {a b : List Int} : Gen B a b → Gen B b a
  | trans {a b c : List Int} : Gen B a b → Gen B b c → Gen B a c
  | cong {a b c d : List Int} : Gen B a b → Gen B c d → Gen B (a ++ c) (b ++ d)
  | can (x : Int) : Gen B [x, -x] []
  | base {a b : List Int} : B a b → Gen B a b
section
variable {B : List Int → List Int → Prop}
theorem Gen.of_eq {a b : List Int} (h : a = b) : Gen B a b := h ▸ Gen.refl a
theorem Gen.mono {B' : List Int → List Int → Prop} (hB : ∀ a b, B a b → B' a b) {a b : List Int} (h : Gen B a b) : Gen B' a b := by
  induction h with
  | refl a => exact .refl a
  | symm _ ih => exact ih.symm
  | trans _ _ i1 i2 => exact i1.trans i2
  | cong _ _ i1 i2 => exact i1.cong i2
  | can x => exact .can x
  | base h => exact .base (hB _ _ h)
theorem Gen.left (c : List Int) {a b : List Int} (h : Gen B a b) : Gen B (c ++ a) (c ++ b) := (Gen.refl c).cong h
theorem Gen.right (c : List Int) {a b : List Int} (h : Gen B a b) : Gen B (a ++ c) (b ++ c) := h.cong (Gen.refl c)
theorem inv_cons (x : Int) (l : List Int) : inv (x :: l) = inv l ++ [-x] := by simp [inv]
theorem inv_nil : inv [] = [] := rfl
theorem Gen.inv_r (a : List Int) : Gen B (a ++ inv a) [] := by
  induction a with
  | nil => exact .refl _
  | cons x l ih =>
    rw [inv_cons, show (x :: l) ++ (inv l ++ [-x]) = [x] ++ ((l ++ inv l) ++ [-x]) by simp]
    exact ((ih.right [-x]).left [x]).trans (.can x)
theorem Gen.inv_l (a : List Int) : Gen B (inv a ++ a) [] := by
  have := Gen.inv_r (B := B) (inv a)
  rwa [inv_inv] at this
theorem Gen.inv {a b : List Int} (h : Gen B a b) : Gen B (inv a) (inv b) := by
  have h1 : Gen B (Go.Proofs.Ytcinnbkhnonijaa.inv a ++ b ++ Go.Proofs.Ytcinnbkhnonijaa.inv b) (Go.Proofs.Ytcinnbkhnonijaa.inv b) := (((h.symm.left _).trans (Gen.inv_l a)).right _)
  have h2 : Gen B (Go.Proofs.Ytcinnbkhnonijaa.inv a) (Go.Proofs.Ytcinnbkhnonijaa.inv a ++ b ++ Go.Proofs.Ytcinnbkhnonijaa.inv b) := by
    have := ((Gen.inv_r (B := B) b).symm.left (Go.Proofs.Ytcinnbkhnonijaa.inv a))
    simpa using this
  exact h2.trans h1
end
def gSet (B : List Int → List Int → Prop) : Setoid (List Int) := ⟨Gen B, ⟨Gen.refl, Gen.symm, Gen.trans⟩⟩
/-- The group of words modulo relations. -/
def GQ (B : List Int → List Int → Prop) : Type := Quotient (gSet B)
def GQ.mk {B : List Int → List Int → Prop} (a : List Int) : GQ B := Quotient.mk (gSet B) a
theorem GQ.eq {B : List Int → List Int → Prop} {a b : List Int} : (GQ.mk a : GQ B) = GQ.mk b ↔ Gen B a b :=
  ⟨fun h => Quotient.exact (s := gSet B) h, fun h => Quotient.sound (s := gSet B) h⟩
theorem GQ.ind {B : List Int → List Int → Prop} {p : GQ B → Prop} (h : ∀ a, p (GQ.mk a)) (x : GQ B) : p x := Quotient.inductionOn (s := gSet B) x h
instance {B : List Int → List Int → Prop} : Mul (GQ B) := ⟨Quotient.lift₂ (s₁ := gSet B) (s₂ := gSet B) (fun a b => (GQ.mk (a ++ b) : GQ B)) fun _ _ _ _ h k => GQ.eq.2 (Gen.cong h k)⟩
instance {B : List Int → List Int → Prop} : OfNat (GQ B) 1 := ⟨GQ.mk []⟩
def GQ.inv {B : List Int → List Int → Prop} : GQ B → GQ B := Quotient.lift (s := gSet B) (fun a => (GQ.mk (Go.Proofs.Ytcinnbkhnonijaa.inv a) : GQ B)) fun _ _ h => GQ.eq.2 (Gen.inv h)
section
variable {B : List Int → List Int → Prop}
theorem GQ.mk_append (a b : List Int) : (GQ.mk (a ++ b) : GQ B) = GQ.mk a * GQ.mk b := rfl
theorem GQ.mk_nil : (GQ.mk [] : GQ B) = 1 := rfl
theorem GQ.mk_cons (x : Int) (b : List Int) : (GQ.mk (x :: b) : GQ B) = GQ.mk [x] * GQ.mk b := rfl
theorem GQ.mk_inv (a : List Int) : (GQ.mk (Go.Proofs.Ytcinnbkhnonijaa.inv a) : GQ B) = (GQ.mk a).inv := rfl
theorem GQ.mk_neg (x : Int) : (GQ.mk [-x] : GQ B) = (GQ.mk [x]).inv := rfl
theorem GQ.mul_assoc (a b c : GQ B) : a * b * c = a * (b * c) := by
  refine GQ.ind (p := fun a => a * b * c = a * (b * c)) (fun a => ?_) a
  refine GQ.ind (p := fun b => GQ.mk a * b * c = GQ.mk a * (b * c)) (fun b => ?_) b
  refine GQ.ind (p := fun c => GQ.mk a * GQ.mk b * c = GQ.mk a * (GQ.mk b * c)) (fun c => ?_) c
  show GQ.mk (a ++ b ++ c) = GQ.mk (a ++ (b ++ c))
  rw [List.append_assoc]
@[simp] theorem GQ.one_mul (a : GQ B) : 1 * a = a := GQ.ind (p := fun a => 1 * a = a) (fun _ => rfl) a
@[simp] theorem GQ.mul_one (a : GQ B) : a * 1 = a := GQ.ind (p := fun a => a * 1 = a) (fun a => by show GQ.mk (a ++ []) = GQ.mk a; rw [List.append_nil]) a
@[simp] theorem GQ.mul_inv (a : GQ B) : a * a.inv = 1 := GQ.ind (p := fun a => a * a.inv = 1) (fun a => GQ.eq.2 (Gen.inv_r a)) a
@[simp] theorem GQ.inv_mul (a : GQ B) : a.inv * a = 1 := GQ.ind (p := fun a => a.inv * a = 1) (fun a => GQ.eq.2 (Gen.inv_l a)) a
@[simp] theorem GQ.inv_mul_left (a b : GQ B) : a.inv * (a * b) = b := by rw [← GQ.mul_assoc, GQ.inv_mul, GQ.one_mul]
@[simp] theorem GQ.mul_inv_left (a b : GQ B) : a * (a.inv * b) = b := by rw [← GQ.mul_assoc, GQ.mul_inv, GQ.one_mul]
theorem GQ.left_cancel {a b c : GQ B} (h : a * b = a * c) : b = c := by rw [← GQ.inv_mul_left a b, h, GQ.inv_mul_left]
theorem GQ.right_cancel {a b c : GQ B} (h : b * a = c * a) : b = c := by
  have := congrArg (· * a.inv) h
  simpa [GQ.mul_assoc, GQ.mul_inv, GQ.mul_one] using this
theorem GQ.inv_of {a b : GQ B} (h : a * b = 1) : a.inv = b := by
  apply GQ.left_cancel (a := a); rw [GQ.mul_inv, h]
@[simp] theorem GQ.inv_inv (a : GQ B) : a.inv.inv = a := GQ.inv_of (GQ.inv_mul a)
@[simp] theorem GQ.inv_one : (1 : GQ B).inv = 1 := GQ.inv_of (GQ.one_mul 1)
@[simp] theorem GQ.inv_prod (a b : GQ B) : (a * b).inv = b.inv * a.inv := GQ.inv_of (by rw [GQ.mul_assoc, GQ.mul_inv_left, GQ.mul_inv])
/-- Two elements that commute; and their inverses. -/
theorem GQ.comm_inv {a b : GQ B} (h : a * b = b * a) : a * b.inv = b.inv * a := by
  apply GQ.left_cancel (a := b)
  rw [← GQ.mul_assoc, ← h, GQ.mul_assoc, GQ.mul_inv, GQ.mul_one, GQ.mul_inv_left]
theorem GQ.comm_mul {a b c : GQ B} (h : a * b = b * a) (h2 : a * c = c * a) : a * (b * c) = b * c * a := by
  rw [← GQ.mul_assoc, h, GQ.mul_assoc, h2, GQ.mul_assoc]
end
/-- The free group. -/
abbrev FG : Type := GQ fun _ _ => False
theorem gen_red (xs : List Int) : Gen (fun _ _ => False) xs (red xs) := by
  rcases nil_or_snoc xs with rfl | ⟨l, x, rfl⟩
  · exact .refl _
  · have hlt : l.length < (l ++ [x]).length := by simp
    have ih := gen_red l
    have e : red (l ++ [x]) = push (red l) x := pushAll_snoc _ _ _
    rw [e]
    refine (ih.right [x]).trans ?_
    unfold push
    split
    · rename_i hl
      rcases nil_or_snoc (red l) with h0 | ⟨r, y, hr⟩
      · rw [h0] at hl; cases hl
      · rw [hr] at hl ⊢
        simp only [List.getLast?_append, List.getLast?_singleton, Option.some_or, Option.some.injEq] at hl
        subst hl
        rw [List.dropLast_concat, List.append_assoc]
        have := (Gen.can (B := fun _ _ => False) (-x)).left r
        simpa using this
    · exact .refl _
termination_by xs.length
theorem red_gen {a b : List Int} (h : Gen (fun _ _ => False) a b) : red a = red b := by
  induction h with
  | refl a => rfl
  | symm _ ih => exact ih.symm
  | trans _ _ i1 i2 => exact i1.trans i2
  | @cong a b c d _ _ i1 i2 => rw [red_append, red_append, i1, ← pushAll_red (rdc_red b) c, i2, pushAll_red (rdc_red b)]
  | can x =>
    show pushAll (push (push [] x) (-x)) [] = []
    have := push_push (out := []) (show Rdc [] from trivial) (-x)
    rw [Int.neg_neg] at this
    rw [this]; rfl
  | base h => exact h.elim
/-- Words are equal in the free group if their reduced words are. -/
theorem fg_eq {a b : List Int} : (GQ.mk a : GQ fun _ _ => False) = GQ.mk b ↔ red a = red b := by
  rw [GQ.eq]
  constructor
  · exact red_gen
  · intro h
    have := gen_red a
    rw [h] at this
    exact this.trans (gen_red b).symm
end Go.Proofs.Ytcinnbkhnonijaa
/-
  Plain law: homomorphisms of groups of words; the action of braid words on the free group; equal braids act in the same way. No program in sight.
-/
namespace Go.Proofs.Ytcinnbkhnonijaa
set_option maxRecDepth 10000

def IsHom {B B' : List Int → List Int → Prop} (f : GQ B → GQ B') : Prop := ∀ a b, f (a * b) = f a * f b
section
variable {B B' B2 : List Int → List Int → Prop}
theorem IsHom.one {f : GQ B → GQ B'} (h : IsHom f) : f 1 = 1 := by
  apply GQ.right_cancel (a := f 1)
  rw [← h, GQ.one_mul, GQ.one_mul]
theorem IsHom.inv {f : GQ B → GQ B'} (h : IsHom f) (a : GQ B) : f a.inv = (f a).inv := by
  refine (GQ.inv_of ?_).symm
  rw [← h, GQ.mul_inv, h.one]
theorem IsHom.comp {f : GQ B' → GQ B2} {g : GQ B → GQ B'} (hf : IsHom f) (hg : IsHom g) : IsHom fun x => f (g x) := fun a b => by
  show f (g (a * b)) = f (g a) * f (g b)
  rw [hg, hf]
theorem isHom_id : IsHom fun x : GQ B => x := fun _ _ => rfl
theorem mk_hom_ext {f g : GQ B → GQ B'} (hf : IsHom f) (hg : IsHom g) (p : Int → Prop) (h : ∀ j, p j → f (GQ.mk [j]) = g (GQ.mk [j])) (l : List Int) (hl : ∀ x ∈ l, p x) : f (GQ.mk l) = g (GQ.mk l) := by
  induction l with
  | nil => show f 1 = g 1; rw [hf.one, hg.one]
  | cons x l ih =>
    rw [GQ.mk_cons, hf, hg, h x (hl x (by simp)), ih fun y hy => hl y (by simp [hy])]
/-- Two homomorphisms that agree at the generators are equal. -/
theorem hom_ext {f g : GQ B → GQ B'} (hf : IsHom f) (hg : IsHom g) (h : ∀ j : Int, 0 ≤ j → f (GQ.mk [j]) = g (GQ.mk [j])) (x : GQ B) : f x = g x := by
  refine GQ.ind (p := fun x => f x = g x) (fun l => ?_) x
  refine mk_hom_ext hf hg (fun _ => True) (fun j _ => ?_) l fun _ _ => trivial
  by_cases hj : 0 ≤ j
  · exact h j hj
  · have := h (-j) (by omega)
    rw [GQ.mk_neg, hf.inv, hg.inv] at this
    rw [← GQ.inv_inv (f _), this, GQ.inv_inv]
/-- The product of the images of a word's letters. -/
def ev (f : Int → GQ B') : List Int → GQ B'
  | [] => 1
  | x :: l => f x * ev f l
theorem ev_append (f : Int → GQ B') (a b : List Int) : ev f (a ++ b) = ev f a * ev f b := by
  induction a with
  | nil => simp [ev]
  | cons x a ih => simp [ev, ih, GQ.mul_assoc]
theorem ev_gen (f : Int → GQ B') (hn : ∀ x, f (-x) = (f x).inv) (hb : ∀ a b, B a b → ev f a = ev f b) {a b : List Int} (h : Gen B a b) : ev f a = ev f b := by
  induction h with
  | refl a => rfl
  | symm _ ih => exact ih.symm
  | trans _ _ i1 i2 => exact i1.trans i2
  | cong _ _ i1 i2 => rw [ev_append, ev_append, i1, i2]
  | can x => simp [ev, hn]
  | base h => exact hb _ _ h
def lift (f : Int → GQ B') (hn : ∀ x, f (-x) = (f x).inv) (hb : ∀ a b, B a b → ev f a = ev f b) : GQ B → GQ B' :=
  Quotient.lift (s := gSet B) (ev f) fun _ _ h => ev_gen f hn hb h
theorem lift_mk (f : Int → GQ B') (hn : ∀ x, f (-x) = (f x).inv) (hb : ∀ a b, B a b → ev f a = ev f b) (l : List Int) : lift f hn hb (GQ.mk l) = ev f l := rfl
theorem lift_one (f : Int → GQ B') (hn : ∀ x, f (-x) = (f x).inv) (hb : ∀ a b, B a b → ev f a = ev f b) (j : Int) : lift f hn hb (GQ.mk [j]) = f j := GQ.mul_one _
theorem lift_hom (f : Int → GQ B') (hn : ∀ x, f (-x) = (f x).inv) (hb : ∀ a b, B a b → ev f a = ev f b) : IsHom (lift f hn hb) := fun a b => by
  refine GQ.ind (p := fun a => lift f hn hb (a * b) = lift f hn hb a * lift f hn hb b) (fun a => ?_) a
  refine GQ.ind (p := fun b => lift f hn hb (GQ.mk a * b) = lift f hn hb (GQ.mk a) * lift f hn hb b) (fun b => ?_) b
  rw [← GQ.mk_append, lift_mk, lift_mk, lift_mk, ev_append]
end
def gx (j : Int) : FG := GQ.mk [j]
theorem gx_neg (j : Int) : gx (-j) = (gx j).inv := rfl
theorem imgL_neg {l : Int} (hl : l ≠ 0) (g : Int) : imgL l (-g) = inv (imgL l g) := by
  have e : ab (-g) = ab g := by unfold ab; omega
  unfold imgL
  rw [e]
  by_cases h1 : ab g = ab l
  · rw [if_pos h1, if_pos h1]
    have : g ≠ 0 := by unfold ab at h1; omega
    by_cases h2 : 0 < g
    · rw [if_neg (by omega), if_pos h2]
    · rw [if_pos (by omega), if_neg h2, inv_inv]
  · rw [if_neg h1, if_neg h1]
    by_cases h3 : ab g = ab l + 1
    · rw [if_pos h3, if_pos h3]
      have : g ≠ 0 := by unfold ab at h3; omega
      by_cases h2 : 0 < g
      · rw [if_neg (by omega), if_pos h2]
      · rw [if_pos (by omega), if_neg h2, inv_inv]
    · rw [if_neg h3, if_neg h3]; rfl
/-- The automorphism of a letter that is not zero (of zero: none). -/
def SL (l : Int) : FG → FG :=
  if h : l ≠ 0 then lift (fun g => GQ.mk (imgL l g)) (fun x => by rw [imgL_neg h]; rfl) (fun _ _ h => h.elim) else fun x => x
theorem SL_hom (l : Int) : IsHom (SL l) := by
  unfold SL
  split
  · exact lift_hom _ _ _
  · exact isHom_id
theorem SL_one {l : Int} (h : l ≠ 0) (j : Int) : SL l (gx j) = GQ.mk (imgL l j) := by
  unfold SL; rw [dif_pos h]; exact lift_one _ _ _ _
theorem ev_flat {B : List Int → List Int → Prop} (f : Int → List Int) (xs : List Int) : ev (fun g => (GQ.mk (f g) : GQ B)) xs = GQ.mk (xs.flatMap f) := by
  induction xs with
  | nil => rfl
  | cons x xs ih => rw [ev, ih, List.flatMap_cons]; rfl
theorem mk_red (xs : List Int) : (GQ.mk (red xs) : FG) = GQ.mk xs := GQ.eq.2 (gen_red xs).symm
/-- The letter's action on words, and its automorphism. -/
theorem SL_act {l : Int} (h : l ≠ 0) (xs : List Int) : SL l (GQ.mk xs) = GQ.mk (actW l xs) := by
  unfold SL; rw [dif_pos h, lift_mk, ev_flat]
  exact (mk_red _).symm
theorem ab_pos_ {l : Int} (h : 0 < l) : ab l = l := by unfold ab; omega
theorem ab_neg_ {l : Int} (h : 0 < l) : ab (-l) = l := by unfold ab; omega
theorem SP_1 {i : Int} (h : 0 < i) : SL i (gx i) = gx i * gx (i + 1) * (gx i).inv := by
  rw [SL_one (by omega), imgL, if_pos rfl, if_pos h, im1, if_pos h, ab_pos_ h]; rfl
theorem SP_2 {i : Int} (h : 0 < i) : SL i (gx (i + 1)) = gx i := by
  rw [SL_one (by omega), imgL, if_neg (by unfold ab; omega), if_pos (by unfold ab; omega), if_pos (by omega), im2, if_pos h, ab_pos_ h]; rfl
theorem SP_3 {i j : Int} (h : 0 < i) (hj : 0 ≤ j) (h1 : j ≠ i) (h2 : j ≠ i + 1) : SL i (gx j) = gx j := by
  rw [SL_one (by omega), imgL, if_neg (by unfold ab; omega), if_neg (by unfold ab; omega)]; rfl
theorem SN_1 {i : Int} (h : 0 < i) : SL (-i) (gx i) = gx (i + 1) := by
  rw [SL_one (by omega), imgL, if_pos (by unfold ab; omega), if_pos h, im1, if_neg (by omega), ab_neg_ h]; rfl
theorem SN_2 {i : Int} (h : 0 < i) : SL (-i) (gx (i + 1)) = (gx (i + 1)).inv * gx i * gx (i + 1) := by
  rw [SL_one (by omega), imgL, if_neg (by unfold ab; omega), if_pos (by unfold ab; omega), if_pos (by omega), im2, if_neg (by omega), ab_neg_ h, show -i - 1 = -(i + 1) by omega]; rfl
theorem SN_3 {i j : Int} (h : 0 < i) (hj : 0 ≤ j) (h1 : j ≠ i) (h2 : j ≠ i + 1) : SL (-i) (gx j) = gx j := by
  rw [SL_one (by omega), imgL, if_neg (by unfold ab; omega), if_neg (by unfold ab; omega)]; rfl
theorem SL_PN {i : Int} (h : 0 < i) (x : FG) : SL i (SL (-i) x) = x := by
  refine hom_ext ((SL_hom i).comp (SL_hom (-i))) isHom_id (fun j hj => ?_) x
  show SL i (SL (-i) (gx j)) = gx j
  by_cases h1 : j = i
  · subst h1; rw [SN_1 h, SP_2 h]
  · by_cases h2 : j = i + 1
    · subst h2
      rw [SN_2 h, SL_hom, SL_hom, (SL_hom i).inv, SP_2 h, SP_1 h]
      simp [GQ.mul_assoc]
    · rw [SN_3 h hj h1 h2, SP_3 h hj h1 h2]
theorem SL_NP {i : Int} (h : 0 < i) (x : FG) : SL (-i) (SL i x) = x := by
  refine hom_ext ((SL_hom (-i)).comp (SL_hom i)) isHom_id (fun j hj => ?_) x
  show SL (-i) (SL i (gx j)) = gx j
  by_cases h1 : j = i
  · subst h1
    rw [SP_1 h, SL_hom, SL_hom, (SL_hom _).inv, SN_1 h, SN_2 h]
    simp [GQ.mul_assoc]
  · by_cases h2 : j = i + 1
    · subst h2; rw [SP_2 h, SN_1 h]
    · rw [SP_3 h hj h1 h2, SN_3 h hj h1 h2]
theorem SL_can (l : Int) (x : FG) : SL (-l) (SL l x) = x := by
  by_cases h0 : l = 0
  · subst h0; unfold SL; simp
  · by_cases h : 0 < l
    · exact SL_NP h x
    · have := SL_PN (i := -l) (by omega) x
      rwa [Int.neg_neg] at this
theorem SL_comm {i j : Int} (hi : 0 < i) (hij : i + 2 ≤ j) (x : FG) : SL j (SL i x) = SL i (SL j x) := by
  have hj : 0 < j := by omega
  refine hom_ext ((SL_hom j).comp (SL_hom i)) ((SL_hom i).comp (SL_hom j)) (fun k hk => ?_) x
  show SL j (SL i (gx k)) = SL i (SL j (gx k))
  by_cases h1 : k = i
  · subst h1
    rw [SP_1 hi, SL_hom, SL_hom, (SL_hom _).inv, SP_3 hj hk (by omega) (by omega), SP_3 hj (by omega) (by omega) (by omega), SP_1 hi]
  · by_cases h2 : k = i + 1
    · subst h2
      rw [SP_2 hi, SP_3 hj (by omega) (by omega) (by omega), SP_3 hj (by omega) (by omega) (by omega), SP_2 hi]
    · rw [SP_3 hi hk h1 h2]
      by_cases h3 : k = j
      · subst h3
        rw [SP_1 hj, SL_hom, SL_hom, (SL_hom _).inv, SP_3 hi hk h1 h2, SP_3 hi (by omega) (by omega) (by omega)]
      · by_cases h4 : k = j + 1
        · subst h4
          rw [SP_2 hj, SP_3 hi (by omega) (by omega) (by omega)]
        · rw [SP_3 hj hk h3 h4, SP_3 hi hk h1 h2]
theorem SL_braid {i : Int} (hi : 0 < i) (x : FG) : SL i (SL (i + 1) (SL i x)) = SL (i + 1) (SL i (SL (i + 1) x)) := by
  have hj : 0 < i + 1 := by omega
  refine hom_ext ((SL_hom i).comp ((SL_hom (i + 1)).comp (SL_hom i))) ((SL_hom (i + 1)).comp ((SL_hom i).comp (SL_hom (i + 1)))) (fun k hk => ?_) x
  show SL i (SL (i + 1) (SL i (gx k))) = SL (i + 1) (SL i (SL (i + 1) (gx k)))
  have e1 := SP_1 hi
  have e2 := SP_2 hi
  have e3 : SL i (gx (i + 1 + 1)) = gx (i + 1 + 1) := SP_3 hi (by omega) (by omega) (by omega)
  have f1 := SP_1 hj
  have f2 := SP_2 hj
  have f3 : SL (i + 1) (gx i) = gx i := SP_3 hj (by omega) (by omega) (by omega)
  by_cases h1 : k = i
  · subst h1
    simp only [e1, e2, e3, f1, f3, SL_hom _ _ _, (SL_hom _).inv]
    simp [GQ.mul_assoc]
  · by_cases h2 : k = i + 1
    · subst h2
      simp only [e1, e2, e3, f1, f2, f3, SL_hom _ _ _, (SL_hom _).inv]
    · by_cases h3 : k = i + 1 + 1
      · subst h3
        simp only [e2, e3, f2, f3]
      · rw [SP_3 hi hk h1 h2, SP_3 hj hk h2 h3, SP_3 hi hk h1 h2]
        rw [SP_3 hj hk h2 h3]
/-- The relations of braids on n strands. -/
inductive BrR (n : Int) : List Int → List Int → Prop
  | comm (i j : Int) : 0 < i → i + 2 ≤ j → j < n → BrR n [i, j] [j, i]
  | braid (i : Int) : 0 < i → i + 1 < n → BrR n [i, i + 1, i] [i + 1, i, i + 1]
theorem BrR.mono {m n : Int} (h : m ≤ n) {a b : List Int} (k : BrR m a b) : BrR n a b := by
  cases k with
  | comm i j h1 h2 h3 => exact .comm i j h1 h2 (by omega)
  | braid i h1 h2 => exact .braid i h1 (by omega)
/-- The action of a word: its letters' automorphisms, one behind the other. -/
def phi : List Int → FG → FG
  | [], x => x
  | l :: w, x => phi w (SL l x)
theorem phi_append (a b : List Int) (x : FG) : phi (a ++ b) x = phi b (phi a x) := by
  induction a generalizing x with
  | nil => rfl
  | cons l a ih => exact ih _
theorem phi_hom (w : List Int) : IsHom (phi w) := by
  induction w with
  | nil => exact isHom_id
  | cons l w ih => exact ih.comp (SL_hom l)
/-- Equal braids act in the same way. -/
theorem phi_gen {n : Int} {a b : List Int} (h : Gen (BrR n) a b) : phi a = phi b := by
  induction h with
  | refl a => rfl
  | symm _ ih => exact ih.symm
  | trans _ _ i1 i2 => exact i1.trans i2
  | cong _ _ i1 i2 => funext x; rw [phi_append, phi_append, i1, i2]
  | can x => funext y; exact SL_can x y
  | base h =>
    funext x
    cases h with
    | comm i j h1 h2 h3 => exact SL_comm h1 h2 x
    | braid i h1 h2 => exact SL_braid h1 x
theorem phi_inv (w : List Int) (x : FG) : phi (inv w) (phi w x) = x := by
  have := congrFun (phi_gen (Gen.inv_r (B := BrR 0) w)) x
  rw [phi_append] at this
  exact this
theorem phi_inv' (w : List Int) (x : FG) : phi w (phi (inv w) x) = x := by
  have := phi_inv (inv w) x
  rwa [inv_inv] at this
end Go.Proofs.Ytcinnbkhnonijaa
/-
  Plain law: a braid word that acts as the identity is trivial (by combing the last strand). No program in sight.
-/
namespace Go.Proofs.Ytcinnbkhnonijaa
set_option maxRecDepth 10000

abbrev BG (n : Int) : Type := GQ (BrR n)
def bs {n : Int} (i : Int) : BG n := GQ.mk [i]
section
variable {n : Int}
theorem bs_neg (i : Int) : (bs (-i) : BG n) = (bs i).inv := rfl
theorem bs_comm {i j : Int} (h1 : 0 < i) (h2 : i + 2 ≤ j) (h3 : j < n) : (bs i * bs j : BG n) = bs j * bs i := GQ.eq.2 (.base (.comm i j h1 h2 h3))
theorem bs_braid {i : Int} (h1 : 0 < i) (h2 : i + 1 < n) : (bs i * bs (i + 1) * bs i : BG n) = bs (i + 1) * bs i * bs (i + 1) := GQ.eq.2 (.base (.braid i h1 h2))
theorem bs_braid_l {i : Int} (h1 : 0 < i) (h2 : i + 1 < n) (x : BG n) : bs i * (bs (i + 1) * (bs i * x)) = bs (i + 1) * (bs i * (bs (i + 1) * x)) := by
  have := congrArg (· * x) (bs_braid h1 h2)
  simpa [GQ.mul_assoc] using this
/-- The letters n - 1, .., n - d, one behind the other. -/
def cW (n : Int) : Nat → List Int
  | 0 => []
  | d + 1 => cW n d ++ [n - 1 - d]
def cG (d : Nat) : BG n := GQ.mk (cW n d)
theorem cG_succ (d : Nat) : (cG (d + 1) : BG n) = cG d * bs (n - 1 - d) := rfl
theorem cG_zero : (cG 0 : BG n) = 1 := rfl
theorem cG_low {d : Nat} {i : Int} (h1 : 0 < i) (h2 : i + d + 1 ≤ n - 1 + 0) (h3 : (d : Int) < n) : (bs i * cG d : BG n) = cG d * bs i := by
  induction d with
  | zero => rw [cG_zero, GQ.mul_one, GQ.one_mul]
  | succ d ih =>
    rw [cG_succ]
    exact GQ.comm_mul (ih (by omega) (by omega)) (bs_comm h1 (by omega) (by omega))
theorem cG_high {d : Nat} {i : Int} (h1 : n - d < i) (h2 : i < n) (h3 : (d : Int) < n) : (cG d * bs i : BG n) = bs (i - 1) * cG d := by
  induction d with
  | zero => omega
  | succ d ih =>
    rw [cG_succ]
    by_cases h : i = n - d
    · cases d with
      | zero => omega
      | succ d =>
        subst h
        rw [cG_succ]
        have e : n - 1 - ((d : Nat) : Int) = (n - 1 - (d + 1 : Nat)) + 1 := by omega
        have e2 : n - ((d + 1 : Nat) : Int) = (n - 1 - (d + 1 : Nat)) + 1 := by omega
        have e3 : n - ((d + 1 : Nat) : Int) - 1 = n - 1 - (d + 1 : Nat) := by omega
        rw [e3, e2, e]
        have hb := bs_braid (n := n) (i := n - 1 - (d + 1 : Nat)) (by omega) (by omega)
        have hl := cG_low (n := n) (d := d) (i := n - 1 - (d + 1 : Nat)) (by omega) (by omega) (by omega)
        simp only [GQ.mul_assoc] at hb ⊢
        rw [← hb, ← GQ.mul_assoc (bs _) (cG d), hl]
        simp only [GQ.mul_assoc]
    · have hc := bs_comm (n := n) (i := n - 1 - d) (j := i) (by omega) (by omega) h2
      rw [GQ.mul_assoc, hc, ← GQ.mul_assoc, ih (by omega) (by omega), GQ.mul_assoc]
/-- The pure braid in which strand n - 1 - d goes round the last one. -/
def aG (d : Nat) : BG n := cG d * (bs (n - 1 - d) * bs (n - 1 - d)) * (cG d).inv
theorem aG_far {d : Nat} {i : Int} (h1 : 0 < i) (h2 : i + d + 3 ≤ n) : (bs i * aG d : BG n) = aG d * bs i := by
  have a := cG_low (n := n) (d := d) h1 (by omega) (by omega)
  have b := bs_comm (n := n) (j := n - 1 - d) h1 (by omega) (by omega)
  unfold aG
  exact GQ.comm_mul (GQ.comm_mul a (GQ.comm_mul b b)) (GQ.comm_inv a)
theorem aG_near {d : Nat} {i : Int} (h1 : n - 1 - d < i) (h2 : i + 1 < n) (h3 : (d : Int) + 1 < n) : (bs i * aG d : BG n) = aG d * bs i := by
  have a := cG_high (n := n) (d := d) (i := i + 1) (by omega) (by omega) (by omega)
  rw [show i + 1 - 1 = i by omega] at a
  have b := bs_comm (n := n) (i := n - 1 - d) (j := i + 1) (by omega) (by omega) (by omega)
  have a2 : (cG d : BG n).inv * bs i = bs (i + 1) * (cG d).inv := by
    apply GQ.left_cancel (a := cG d)
    rw [← GQ.mul_assoc, GQ.mul_inv, GQ.one_mul, ← GQ.mul_assoc, a, GQ.mul_assoc, GQ.mul_inv, GQ.mul_one]
  unfold aG
  simp only [GQ.mul_assoc]
  rw [a2, ← GQ.mul_assoc (bs i), ← a]
  simp only [GQ.mul_assoc]
  rw [← GQ.mul_assoc (bs (n - 1 - d)) (bs (i + 1)), b, GQ.mul_assoc, ← GQ.mul_assoc (bs (n - 1 - d)) (bs (i + 1)), b]
  simp only [GQ.mul_assoc]
/-- What a letter does to the two that it moves. -/
theorem aG_up {d : Nat} (h : (d : Int) + 2 < n) : (bs (n - 2 - d) * aG (d + 1) * (bs (n - 2 - d)).inv : BG n) = aG d := by
  have e : n - 1 - ((d + 1 : Nat) : Int) = n - 2 - d := by omega
  have e2 : n - 1 - (d : Int) = (n - 2 - d) + 1 := by omega
  have hl := cG_low (n := n) (d := d) (i := n - 2 - d) (by omega) (by omega) (by omega)
  have hb := bs_braid_l (n := n) (i := n - 2 - d) (by omega) (by omega)
  have hli : (cG d : BG n).inv * (bs (n - 2 - d)).inv = (bs (n - 2 - d)).inv * (cG d).inv := by
    rw [← GQ.inv_prod, ← GQ.inv_prod, hl]
  unfold aG
  rw [cG_succ, e, e2]
  simp only [GQ.mul_assoc, GQ.inv_prod]
  rw [← GQ.mul_assoc (bs (n - 2 - d)) (cG d), hl, GQ.mul_assoc]
  rw [hli]
  congr 1
  have key : ∀ x : BG n, bs (n - 2 - d) * (bs (n - 2 - d + 1) * (bs (n - 2 - d) * (bs (n - 2 - d) * ((bs (n - 2 - d + 1)).inv * ((bs (n - 2 - d)).inv * x))))) = bs (n - 2 - d + 1) * (bs (n - 2 - d + 1) * x) := by
    intro x
    rw [hb]
    have : ∀ y : BG n, bs (n - 2 - d) * (bs (n - 2 - d + 1) * (bs (n - 2 - d) * ((bs (n - 2 - d + 1)).inv * ((bs (n - 2 - d)).inv * y)))) = bs (n - 2 - d + 1) * y := by
      intro y
      rw [hb]
      simp
    rw [this]
  exact key _
theorem aG_down {d : Nat} (h : (d : Int) + 2 < n) : (bs (n - 2 - d) * aG d * (bs (n - 2 - d)).inv : BG n) = (aG d).inv * aG (d + 1) * aG d := by
  have e : n - 1 - ((d + 1 : Nat) : Int) = n - 2 - d := by omega
  have e2 : n - 1 - (d : Int) = (n - 2 - d) + 1 := by omega
  have hl := cG_low (n := n) (d := d) (i := n - 2 - d) (by omega) (by omega) (by omega)
  have hb := bs_braid_l (n := n) (i := n - 2 - d) (by omega) (by omega)
  have hli : (cG d : BG n).inv * (bs (n - 2 - d)).inv = (bs (n - 2 - d)).inv * (cG d).inv := by
    rw [← GQ.inv_prod, ← GQ.inv_prod, hl]
  unfold aG
  rw [cG_succ, e, e2]
  simp only [GQ.mul_assoc, GQ.inv_prod, GQ.inv_inv, GQ.inv_mul_left]
  rw [← GQ.mul_assoc (bs (n - 2 - d)) (cG d), hl, GQ.mul_assoc, hli]
  congr 1
  generalize hA : (bs (n - 2 - d) : BG n) = a at *
  generalize hB : (bs (n - 2 - d + 1) : BG n) = b at *
  have k1 : ∀ x : BG n, a * (b * (a.inv * x)) = b.inv * (a * (b * x)) := by
    intro x
    apply GQ.left_cancel (a := b)
    have := hb (a.inv * x)
    simp only [GQ.mul_inv_left] at this
    rw [GQ.mul_inv_left, ← this]
  rw [show a * (b * (b * (a.inv * (cG d).inv))) = a * (b * (a.inv * (a * (b * (a.inv * (cG d).inv))))) by simp]
  rw [k1, k1]
  simp
end
/-- The pure braids of the letters of a free word: its letter x is strand |x| round the last. -/
def aL (n x : Int) : BG n := if 0 < x then aG (n - 1 - x).toNat else if x < 0 then (aG (n - 1 + x).toNat).inv else 1
theorem aL_neg (n x : Int) : aL n (-x) = (aL n x).inv := by
  unfold aL
  by_cases h : 0 < x
  · rw [if_neg (by omega), if_pos (by omega), if_pos h, show n - 1 + -x = n - 1 - x by omega]
  · by_cases h2 : x < 0
    · rw [if_pos (by omega), if_neg h, if_pos h2, GQ.inv_inv, show n - 1 - -x = n - 1 + x by omega]
    · rw [if_neg (by omega), if_neg (by omega), if_neg h, if_neg h2, GQ.inv_one]
def aV (n : Int) : FG → BG n := lift (aL n) (aL_neg n) fun _ _ h => h.elim
theorem aV_hom (n : Int) : IsHom (aV n) := lift_hom _ _ _
theorem aV_one (n j : Int) : aV n (gx j) = aL n j := lift_one _ _ _ _
/-- Words in letters of size below n. -/
def In (n : Int) (w : List Int) : Prop := ∀ x ∈ w, x ≠ 0 ∧ 1 - n ≤ x ∧ x ≤ n - 1
def InG (n : Int) (u : FG) : Prop := ∃ l, In n l ∧ u = GQ.mk l
theorem In.append {n : Int} {a b : List Int} (h : In n a) (k : In n b) : In n (a ++ b) := fun x hx => (List.mem_append.1 hx).elim (h x) (k x)
theorem InG.mul {n : Int} {a b : FG} (h : InG n a) (k : InG n b) : InG n (a * b) := by
  obtain ⟨l, h, rfl⟩ := h
  obtain ⟨m, k, rfl⟩ := k
  exact ⟨l ++ m, h.append k, rfl⟩
theorem InG.one (n : Int) : InG n 1 := ⟨[], fun x hx => absurd hx (by simp), rfl⟩
theorem In.inv {n : Int} {a : List Int} (h : In n a) : In n (inv a) := fun x hx => by
  simp only [Go.Proofs.Ytcinnbkhnonijaa.inv, List.mem_reverse, List.mem_map] at hx
  obtain ⟨y, hy, rfl⟩ := hx
  have := h y hy
  omega
theorem InG.inv {n : Int} {a : FG} (h : InG n a) : InG n a.inv := by
  obtain ⟨l, h, rfl⟩ := h
  exact ⟨_, h.inv, (GQ.mk_inv l).symm⟩
theorem InG.gx {n j : Int} (h0 : j ≠ 0) (h1 : 1 - n ≤ j) (h2 : j ≤ n - 1) : InG n (gx j) := ⟨[j], fun x hx => by simp at hx; omega, rfl⟩
/-- Conjugating by a letter below n - 1 keeps the words in the pure braids round the last strand. -/
theorem aV_conj1 {n i j : Int} (hi : 0 < i) (hin : i + 1 < n) (h0 : 0 < j) (h2 : j ≤ n - 1) : ∃ u, InG n u ∧ (bs i * aV n (gx j) * (bs i).inv : BG n) = aV n u := by
  have ej : aV n (gx j) = aG (n - 1 - j).toNat := by rw [aV_one, aL, if_pos h0]
  by_cases h3 : i = j
  · subst h3
    obtain ⟨d, hd⟩ : ∃ d : Nat, n - 1 - i = d + 1 := ⟨(n - 2 - i).toNat, by omega⟩
    refine ⟨gx (i + 1), InG.gx (by omega) (by omega) (by omega), ?_⟩
    rw [ej, aV_one, aL, if_pos (by omega), show (n - 1 - i).toNat = d + 1 by omega, show (n - 1 - (i + 1)).toNat = d by omega]
    have := aG_up (n := n) (d := d) (by omega)
    rwa [show n - 2 - (d : Int) = i by omega] at this
  · by_cases h4 : i + 1 = j
    · subst h4
      obtain ⟨d, hd⟩ : ∃ d : Nat, n - 2 - i = d := ⟨(n - 2 - i).toNat, by omega⟩
      refine ⟨(gx (i + 1)).inv * gx i * gx (i + 1), ((InG.gx (by omega) (by omega) (by omega)).inv.mul (InG.gx (by omega) (by omega) (by omega))).mul (InG.gx (by omega) (by omega) (by omega)), ?_⟩
      rw [aV_hom, aV_hom, (aV_hom n).inv, ej]
      rw [show aV n (gx i) = aG (d + 1) by rw [aV_one, aL, if_pos hi, show (n - 1 - i).toNat = d + 1 by omega]]
      rw [show (n - 1 - (i + 1)).toNat = d by omega]
      have := aG_down (n := n) (d := d) (by omega)
      rwa [show n - 2 - (d : Int) = i by omega] at this
    · refine ⟨gx j, InG.gx (by omega) (by omega) h2, ?_⟩
      rw [ej]
      have hc : (bs i * aG (n - 1 - j).toNat : BG n) = aG (n - 1 - j).toNat * bs i := by
        by_cases h5 : i < j
        · exact aG_far hi (by omega)
        · exact aG_near (by omega) hin (by omega)
      rw [hc, GQ.mul_assoc, GQ.mul_inv, GQ.mul_one]
theorem conj_hom {n : Int} (c : BG n) (a b : BG n) : c * (a * b) * c.inv = c * a * c.inv * (c * b * c.inv) := by simp [GQ.mul_assoc]
theorem conj_inv {n : Int} (c : BG n) (a : BG n) : c * a.inv * c.inv = (c * a * c.inv).inv := by simp [GQ.mul_assoc]
theorem aV_conj {n : Int} (c : BG n) (h : ∀ j, 0 < j → j ≤ n - 1 → ∃ u, InG n u ∧ c * aV n (gx j) * c.inv = aV n u) (u : FG) (hu : InG n u) : ∃ u', InG n u' ∧ c * aV n u * c.inv = aV n u' := by
  obtain ⟨l, hl, rfl⟩ := hu
  induction l with
  | nil => exact ⟨1, InG.one n, by rw [GQ.mk_nil, (aV_hom n).one]; simp⟩
  | cons x l ih =>
    obtain ⟨u2, k2, e2⟩ := ih fun y hy => hl y (by simp [hy])
    have hx := hl x (by simp)
    have h1 : ∃ u1, InG n u1 ∧ c * aV n (gx x) * c.inv = aV n u1 := by
      by_cases h0 : 0 < x
      · exact h x h0 hx.2.2
      · obtain ⟨u1, k1, e1⟩ := h (-x) (by omega) (by omega)
        refine ⟨u1.inv, k1.inv, ?_⟩
        rw [(aV_hom n).inv, ← e1, ← conj_inv, ← (aV_hom n).inv, ← gx_neg, Int.neg_neg]
    obtain ⟨u1, k1, e1⟩ := h1
    refine ⟨u1 * u2, k1.mul k2, ?_⟩
    rw [aV_hom, ← e1, ← e2, ← conj_hom, ← aV_hom]; rfl
/-- The same for the inverse of a letter. -/
theorem aV_conj2 {n i j : Int} (hi : 0 < i) (hin : i + 1 < n) (h0 : 0 < j) (h2 : j ≤ n - 1) : ∃ u, InG n u ∧ ((bs i).inv * aV n (gx j) * (bs i).inv.inv : BG n) = aV n u := by
  have ej : aV n (gx j) = aG (n - 1 - j).toNat := by rw [aV_one, aL, if_pos h0]
  by_cases h3 : i = j ∨ i + 1 = j
  · obtain ⟨d, hd⟩ : ∃ d : Nat, n - 2 - i = d := ⟨(n - 2 - i).toNat, by omega⟩
    have up := aG_up (n := n) (d := d) (by omega)
    have down := aG_down (n := n) (d := d) (by omega)
    rw [show n - 2 - (d : Int) = i by omega] at up down
    have up2 : (bs i).inv * aG d * (bs i).inv.inv = (aG (d + 1) : BG n) := by rw [← up]; simp [GQ.mul_assoc]
    have ei : aV n (gx i) = aG (d + 1) := by rw [aV_one, aL, if_pos hi, show (n - 1 - i).toNat = d + 1 by omega]
    have ei1 : aV n (gx (i + 1)) = aG d := by rw [aV_one, aL, if_pos (by omega), show (n - 1 - (i + 1)).toNat = d by omega]
    have g1 : InG n (gx i) := InG.gx (by omega) (by omega) (by omega)
    have g2 : InG n (gx (i + 1)) := InG.gx (by omega) (by omega) (by omega)
    rcases h3 with h3 | h3
    · subst h3
      refine ⟨gx i * gx (i + 1) * (gx i).inv, (g1.mul g2).mul g1.inv, ?_⟩
      rw [aV_hom, aV_hom, (aV_hom n).inv, ei, ei1]
      have hP : (aG (d + 1) : BG n) = aG d * (bs i * aG d * (bs i).inv) * (aG d).inv := by rw [down]; simp [GQ.mul_assoc]
      have h5 : (bs i).inv * aG (d + 1) * (bs i).inv.inv = ((bs i).inv * aG d * (bs i).inv.inv) * aG d * ((bs i).inv * aG d * (bs i).inv.inv : BG n).inv := by
        rw [hP]; simp [GQ.mul_assoc]
      rw [h5, up2]
    · subst h3
      refine ⟨gx i, g1, ?_⟩
      rw [ei1, ei, up2]
  · refine ⟨gx j, InG.gx (by omega) (by omega) h2, ?_⟩
    rw [ej]
    have hc : (bs i * aG (n - 1 - j).toNat : BG n) = aG (n - 1 - j).toNat * bs i := by
      by_cases h5 : i < j
      · exact aG_far hi (by omega)
      · exact aG_near (by omega) hin (by omega)
    rw [GQ.inv_inv, GQ.mul_assoc, ← hc, GQ.inv_mul_left]
theorem in_nil (n : Int) : In n [] := fun x hx => absurd hx (by simp)
theorem in_one {n x : Int} (h0 : x ≠ 0) (h1 : 1 - n ≤ x) (h2 : x ≤ n - 1) : In n [x] := fun y hy => by simp at hy; subst hy; exact ⟨h0, h1, h2⟩
theorem comb_step {n : Int} {d : Nat} (hd : (d : Int) < n) {x : Int} (hx : x ≠ 0 ∧ 1 - n ≤ x ∧ x ≤ n - 1) :
    ∃ (v : FG) (c : List Int) (d' : Nat), InG n v ∧ In (n - 1) c ∧ (d' : Int) < n ∧ (cG d * GQ.mk [x] : BG n) = aV n v * GQ.mk c * cG d' := by
  have one : ∀ c : List Int, ∀ d' : Nat, (cG d * GQ.mk [x] : BG n) = GQ.mk c * cG d' → (cG d * GQ.mk [x] : BG n) = aV n 1 * GQ.mk c * cG d' := fun c d' h => by rw [(aV_hom n).one, GQ.one_mul]; exact h
  by_cases h0 : 0 < x
  · by_cases h1 : x + d + 1 < n
    · exact ⟨1, [x], d, InG.one n, in_one hx.1 (by omega) (by omega), hd, one _ _ (cG_low h0 (by omega) hd).symm⟩
    · by_cases h2 : x = n - 1 - d
      · exact ⟨1, [], d + 1, InG.one n, in_nil _, by omega, one _ _ (by rw [cG_succ, h2]; exact (GQ.one_mul _).symm)⟩
      · by_cases h3 : x = n - d
        · obtain ⟨m, rfl⟩ : ∃ m, d = m + 1 := ⟨d - 1, by omega⟩
          refine ⟨gx x, [], m, InG.gx hx.1 hx.2.1 hx.2.2, in_nil _, by omega, ?_⟩
          have e : n - 1 - (m : Int) = x := by omega
          rw [aV_one, aL, if_pos h0, show (n - 1 - x).toNat = m by omega, cG_succ, e, aG, e, GQ.mk_nil]
          show cG m * bs x * bs x = _
          simp [GQ.mul_assoc]
        · exact ⟨1, [x - 1], d, InG.one n, in_one (by omega) (by omega) (by omega), hd, one _ _ (cG_high (by omega) (by omega) hd)⟩
  · obtain ⟨y, rfl⟩ : ∃ y, x = -y := ⟨-x, by omega⟩
    have hy : 0 < y := by omega
    have es : (GQ.mk [-y] : BG n) = (bs y).inv := rfl
    by_cases h1 : y + d + 1 < n
    · refine ⟨1, [-y], d, InG.one n, in_one hx.1 (by omega) (by omega), hd, one _ _ ?_⟩
      rw [es]
      exact GQ.comm_inv (cG_low hy (by omega) hd).symm
    · by_cases h2 : y = n - 1 - d
      · refine ⟨(gx y).inv, [], d + 1, (InG.gx (by omega) (by omega) (by omega)).inv, in_nil _, by omega, ?_⟩
        rw [es, (aV_hom n).inv, aV_one, aL, if_pos hy, show (n - 1 - y).toNat = d by omega, cG_succ, aG, ← h2, GQ.mk_nil]
        simp [GQ.mul_assoc]
      · by_cases h3 : y = n - d
        · obtain ⟨m, rfl⟩ : ∃ m, d = m + 1 := ⟨d - 1, by omega⟩
          refine ⟨1, [], m, InG.one n, in_nil _, by omega, one _ _ ?_⟩
          have e : n - 1 - (m : Int) = y := by omega
          rw [es, cG_succ, e, GQ.mul_assoc, GQ.mul_inv, GQ.mul_one, GQ.mk_nil, GQ.one_mul]
        · refine ⟨1, [-(y - 1)], d, InG.one n, in_one (by omega) (by omega) (by omega), hd, one _ _ ?_⟩
          have h := cG_high (n := n) (d := d) (i := y) (by omega) (by omega) hd
          rw [es, show (GQ.mk [-(y - 1)] : BG n) = (bs (y - 1)).inv from rfl]
          apply GQ.left_cancel (a := bs (y - 1))
          rw [GQ.mul_inv_left, ← GQ.mul_assoc, ← h, GQ.mul_assoc, GQ.mul_inv, GQ.mul_one]
theorem aV_conj_word {n : Int} (c : List Int) (hc : In (n - 1) c) (u : FG) (hu : InG n u) : ∃ u', InG n u' ∧ (GQ.mk c * aV n u : BG n) = aV n u' * GQ.mk c := by
  induction c generalizing u with
  | nil => exact ⟨u, hu, by rw [GQ.mk_nil, GQ.one_mul, GQ.mul_one]⟩
  | cons y c ih =>
    obtain ⟨u1, k1, e1⟩ := ih (fun z hz => hc z (by simp [hz])) u hu
    have hy := hc y (by simp)
    have h1 : ∃ u', InG n u' ∧ (GQ.mk [y] * aV n u1 * (GQ.mk [y]).inv : BG n) = aV n u' := by
      by_cases h0 : 0 < y
      · exact aV_conj (bs y) (fun j j1 j2 => aV_conj1 h0 (by omega) j1 j2) u1 k1
      · have e : (GQ.mk [y] : BG n) = (bs (-y)).inv := by rw [← bs_neg, Int.neg_neg]; rfl
        rw [e]
        exact aV_conj (bs (-y)).inv (fun j j1 j2 => aV_conj2 (by omega) (by omega) j1 j2) u1 k1
    obtain ⟨u2, k2, e2⟩ := h1
    refine ⟨u2, k2, ?_⟩
    rw [← e2, GQ.mk_cons, GQ.mul_assoc (GQ.mk [y]) (GQ.mk c), e1]
    simp [GQ.mul_assoc]
/-- Every word is pure braids round the last strand, a word on the others, and a way back for the last. -/
theorem comb {n : Int} (hn : 0 < n) (w : List Int) (hw : In n w) : ∃ (u : FG) (b : List Int) (d : Nat), InG n u ∧ In (n - 1) b ∧ (d : Int) < n ∧ (GQ.mk w : BG n) = aV n u * GQ.mk b * cG d := by
  rcases nil_or_snoc w with rfl | ⟨l, x, rfl⟩
  · exact ⟨1, [], 0, InG.one n, in_nil _, by omega, by rw [(aV_hom n).one]; rfl⟩
  · have hlt : l.length < (l ++ [x]).length := by simp
    obtain ⟨u, b, d, hu, hb, hd, e⟩ := comb hn l fun y hy => hw y (by simp [hy])
    obtain ⟨v, c, d', hv, hc, hd', e2⟩ := comb_step hd (hw x (by simp))
    obtain ⟨v', hv', e3⟩ := aV_conj_word b hb v hv
    refine ⟨u * v', b ++ c, d', hu.mul hv', hb.append hc, hd', ?_⟩
    rw [GQ.mk_append, e, GQ.mul_assoc _ (cG d), e2, aV_hom, GQ.mk_append]
    simp only [GQ.mul_assoc]
    rw [← GQ.mul_assoc (GQ.mk b), e3]
    simp only [GQ.mul_assoc]
termination_by w.length
/-- The action of an element of the group of braids. -/
def phiG {n : Int} : BG n → FG → FG := Quotient.lift (s := gSet (BrR n)) phi fun _ _ h => phi_gen h
section
variable {n : Int}
theorem phiG_mk (w : List Int) (x : FG) : phiG (GQ.mk w : BG n) x = phi w x := rfl
theorem phiG_bs (i : Int) (x : FG) : phiG (bs i : BG n) x = SL i x := rfl
theorem phiG_mul (a b : BG n) (x : FG) : phiG (a * b) x = phiG b (phiG a x) := by
  refine GQ.ind (p := fun a => phiG (a * b) x = phiG b (phiG a x)) (fun a => ?_) a
  refine GQ.ind (p := fun b => phiG (GQ.mk a * b) x = phiG b (phiG (GQ.mk a) x)) (fun b => ?_) b
  exact phi_append a b x
theorem phiG_one (x : FG) : phiG (1 : BG n) x = x := rfl
theorem phiG_hom (a : BG n) : IsHom (phiG a) := GQ.ind (p := fun a => IsHom (phiG a)) (fun a => phi_hom a) a
theorem phiG_inv (a : BG n) (x : FG) : phiG a.inv (phiG a x) = x := by rw [← phiG_mul, GQ.mul_inv, phiG_one]
theorem phiG_inv' (a : BG n) (x : FG) : phiG a (phiG a.inv x) = x := by rw [← phiG_mul, GQ.inv_mul, phiG_one]
theorem phi_cG_n {d : Nat} (h : (d : Int) < n) : phiG (cG d : BG n) (gx n) = gx (n - d) := by
  induction d with
  | zero => rw [cG_zero, phiG_one]; simp
  | succ d ih =>
    rw [cG_succ, phiG_mul, ih (by omega), phiG_bs, show n - (d : Int) = (n - 1 - d) + 1 by omega, SP_2 (by omega)]
    congr 1; omega
theorem phi_cG_low {d : Nat} {j : Int} (h0 : 0 ≤ j) (h : j < n - d) (hd : (d : Int) < n) : phiG (cG d : BG n) (gx j) = gx j := by
  induction d with
  | zero => rfl
  | succ d ih => rw [cG_succ, phiG_mul, ih (by omega) (by omega), phiG_bs, SP_3 (by omega) h0 (by omega) (by omega)]
end
/-- The homomorphism that kills a generator. -/
def kill (k : Int) : FG → FG := lift (fun x => if x = k ∨ x = -k then 1 else gx x) (fun x => by
  by_cases h : x = k ∨ x = -k
  · rw [if_pos h, if_pos (by omega), GQ.inv_one]
  · rw [if_neg h, if_neg (by omega), gx_neg]) fun _ _ h => h.elim
theorem kill_hom (k : Int) : IsHom (kill k) := lift_hom _ _ _
theorem kill_at (k : Int) : kill k (gx k) = 1 := by
  unfold kill
  show lift _ _ _ (GQ.mk [k]) = _
  rw [lift_one, if_pos (.inl rfl)]
theorem kill_not {k j : Int} (h1 : j ≠ k) (h2 : j ≠ -k) : kill k (gx j) = gx j := by
  unfold kill
  show lift _ _ _ (GQ.mk [j]) = _
  rw [lift_one, if_neg (by omega)]
theorem kill_fac {B : List Int → List Int → Prop} {h : FG → GQ B} (hh : IsHom h) {k : Int} (h0 : 0 < k) (h1 : h (gx k) = 1) (x : FG) : h (kill k x) = h x := by
  refine hom_ext (hh.comp (kill_hom k)) hh (fun j hj => ?_) x
  show h (kill k (gx j)) = h (gx j)
  by_cases e : j = k
  · subst e; rw [kill_at, hh.one, h1]
  · rw [kill_not e (by omega)]
theorem kill_two {j : Int} (h : 0 < j) (x : FG) : kill (j + 1) (SL j (SL j x)) = kill (j + 1) x := by
  refine hom_ext ((kill_hom _).comp ((SL_hom j).comp (SL_hom j))) (kill_hom _) (fun i hi => ?_) x
  show kill (j + 1) (SL j (SL j (gx i))) = kill (j + 1) (gx i)
  by_cases h1 : i = j
  · subst h1
    rw [SP_1 h, SL_hom, SL_hom, (SL_hom _).inv, SP_1 h, SP_2 h]
    simp only [kill_hom _ _ _, (kill_hom _).inv, kill_at, kill_not (show i ≠ i + 1 by omega) (show i ≠ -(i + 1) by omega)]
    simp
  · by_cases h2 : i = j + 1
    · subst h2
      rw [SP_2 h, SP_1 h, kill_hom, kill_hom, (kill_hom _).inv, kill_at, GQ.mul_one, GQ.mul_inv]
    · rw [SP_3 h hi h1 h2, SP_3 h hi h1 h2]
theorem kill_aG {n : Int} {d : Nat} (hd : (d : Int) + 1 < n) (x : FG) : kill n (phiG (aG d : BG n) x) = kill n x := by
  have hh : IsHom fun x => kill n (phiG (cG d : BG n).inv x) := (kill_hom n).comp (phiG_hom _)
  have hk : kill n (phiG (cG d : BG n).inv (gx ((n - 1 - d) + 1))) = 1 := by
    rw [show (n - 1 - (d : Int)) + 1 = n - d by omega, ← phi_cG_n (n := n) (d := d) (by omega), phiG_inv, kill_at]
  rw [aG, phiG_mul, phiG_mul, phiG_mul, phiG_bs, phiG_bs]
  have h1 := kill_fac hh (k := (n - 1 - d) + 1) (by omega) hk
  have e1 := h1 (SL (n - 1 - d) (SL (n - 1 - d) (phiG (cG d : BG n) x)))
  rw [kill_two (by omega), h1] at e1
  rw [← e1, phiG_inv]
theorem kill_aL {n y : Int} (h0 : y ≠ 0) (h1 : 1 - n ≤ y) (h2 : y ≤ n - 1) (x : FG) : kill n (phiG (aL n y : BG n) x) = kill n x := by
  unfold aL
  by_cases h : 0 < y
  · rw [if_pos h, kill_aG (by omega)]
  · rw [if_neg h, if_pos (by omega), ← kill_aG (n := n) (d := (n - 1 + y).toNat) (by omega), phiG_inv']
theorem kill_aV {n : Int} (l : List Int) (hl : In n l) (x : FG) : kill n (phiG (aV n (GQ.mk l)) x) = kill n x := by
  induction l generalizing x with
  | nil => rw [GQ.mk_nil, (aV_hom n).one, phiG_one]
  | cons y l ih =>
    have := hl y (by simp)
    rw [GQ.mk_cons, aV_hom, phiG_mul, ih (fun z hz => hl z (by simp [hz])), show aV n (GQ.mk [y]) = aL n y from aV_one n y, kill_aL this.1 this.2.1 this.2.2]
theorem phi_aG_n {n : Int} {d : Nat} (hd : (d : Int) + 1 < n) : phiG (aG d : BG n) (gx n) = gx (n - 1 - d) * gx n * (gx (n - 1 - d)).inv := by
  have e : n - (d : Int) = (n - 1 - d) + 1 := by omega
  have c1 : phiG (cG d : BG n).inv (gx (n - 1 - d)) = gx (n - 1 - d) := by
    have := phiG_inv (cG d : BG n) (gx (n - 1 - d))
    rwa [phi_cG_low (by omega) (by omega) (by omega)] at this
  have c2 : phiG (cG d : BG n).inv (gx ((n - 1 - d) + 1)) = gx n := by
    rw [← e, ← phi_cG_n (n := n) (d := d) (by omega), phiG_inv]
  rw [aG, phiG_mul, phiG_mul, phiG_mul, phiG_bs, phiG_bs, phi_cG_n (by omega), e, SP_2 (by omega), SP_1 (by omega), phiG_hom, phiG_hom, (phiG_hom _).inv, c1, c2]
theorem phi_aL_n {n y : Int} (h0 : y ≠ 0) (h1 : 1 - n ≤ y) (h2 : y ≤ n - 1) : ∃ Z : FG, phiG (aL n y : BG n) (gx n) = Z * gx n * Z.inv ∧ kill n Z = gx y := by
  unfold aL
  by_cases h : 0 < y
  · rw [if_pos h]
    refine ⟨gx y, ?_, kill_not (by omega) (by omega)⟩
    have := phi_aG_n (n := n) (d := (n - 1 - y).toNat) (by omega)
    rwa [show n - 1 - (((n - 1 - y).toNat : Nat) : Int) = y by omega] at this
  · rw [if_neg h, if_pos (by omega)]
    have h3 := phi_aG_n (n := n) (d := (n - 1 + y).toNat) (by omega)
    rw [show n - 1 - (((n - 1 + y).toNat : Nat) : Int) = -y by omega] at h3
    have h4 := congrArg (phiG (aG (n - 1 + y).toNat : BG n).inv) h3
    rw [phiG_inv, phiG_hom, phiG_hom, (phiG_hom _).inv] at h4
    refine ⟨(phiG (aG (n - 1 + y).toNat : BG n).inv (gx (-y))).inv, ?_, ?_⟩
    · generalize phiG (aG (n - 1 + y).toNat : BG n).inv (gx (-y)) = z at h4
      generalize phiG (aG (n - 1 + y).toNat : BG n).inv (gx n) = t at h4
      rw [h4]
      simp [GQ.mul_assoc]
    · rw [(kill_hom n).inv, ← kill_aG (n := n) (d := (n - 1 + y).toNat) (by omega), phiG_inv', kill_not (by omega) (by omega), gx_neg, GQ.inv_inv]
theorem phi_aV_n {n : Int} (l : List Int) (hl : In n l) : ∃ G : FG, phiG (aV n (GQ.mk l)) (gx n) = G * gx n * G.inv ∧ kill n G = GQ.mk l := by
  induction l with
  | nil => exact ⟨1, by rw [GQ.mk_nil, (aV_hom n).one, phiG_one]; simp, (kill_hom n).one⟩
  | cons y l ih =>
    obtain ⟨G, h1, h2⟩ := ih fun z hz => hl z (by simp [hz])
    have hy := hl y (by simp)
    obtain ⟨Z, k1, k2⟩ := phi_aL_n hy.1 hy.2.1 hy.2.2
    refine ⟨phiG (aV n (GQ.mk l)) Z * G, ?_, ?_⟩
    · rw [GQ.mk_cons, aV_hom, phiG_mul, show aV n (GQ.mk [y]) = aL n y from aV_one n y, k1, phiG_hom, phiG_hom, (phiG_hom _).inv, h1]
      simp [GQ.mul_assoc]
    · rw [kill_hom, kill_aV l fun z hz => hl z (by simp [hz]), k2, h2, GQ.mk_cons]; rfl
/-- What commutes with a generator is a power of it: it dies with it. -/
theorem kill_central {k : Int} (h0 : 0 < k) (g : List Int) (hg : Rdc g) (h : (GQ.mk g * gx k * (GQ.mk g).inv : FG) = gx k) : kill k (GQ.mk g) = 1 := by
  rcases nil_or_snoc g with rfl | ⟨l, x, rfl⟩
  · exact (kill_hom k).one
  · have hlt : l.length < (l ++ [x]).length := by simp
    by_cases hx : x = k ∨ x = -k
    · have ih := kill_central h0 l (rdc_append.1 hg).1
      have e1 : kill k (GQ.mk [x] : FG) = 1 := by
        unfold kill; rw [lift_one, if_pos hx]
      rw [GQ.mk_append, kill_hom, e1, GQ.mul_one]
      apply ih
      rw [GQ.mk_append] at h
      have e2 : (GQ.mk [x] * gx k * (GQ.mk [x]).inv : FG) = gx k := by
        rcases hx with rfl | rfl
        · show gx x * gx x * (gx x).inv = gx x
          rw [GQ.mul_assoc, GQ.mul_inv, GQ.mul_one]
        · show (gx k).inv * gx k * (gx k).inv.inv = gx k
          simp
      have e3 : (GQ.mk l * GQ.mk [x] * gx k * (GQ.mk l * GQ.mk [x]).inv : FG) = GQ.mk l * (GQ.mk [x] * gx k * (GQ.mk [x]).inv) * (GQ.mk l).inv := by simp [GQ.mul_assoc]
      rw [e3, e2] at h
      exact h
    · exfalso
      have e : (GQ.mk ((l ++ [x]) ++ [k] ++ inv (l ++ [x])) : FG) = GQ.mk [k] := h
      have h1 := fg_eq.1 e
      have hr : Rdc ((l ++ [x]) ++ [k] ++ inv (l ++ [x])) := by
        refine rdc_append.2 ⟨rdc_append.2 ⟨hg, trivial, fun a b ha hb => ?_⟩, rdc_inv hg, fun a b ha hb => ?_⟩
        · simp at ha hb; omega
        · rw [inv_snoc] at hb
          simp at ha hb
          omega
      rw [red_of_rdc hr, red_of_rdc (show Rdc [k] from trivial)] at h1
      have := congrArg List.length h1
      simp at this
      omega
termination_by g.length
theorem gx_ne_one {k : Int} : gx k ≠ 1 := fun h => by
  have h1 := fg_eq.1 (show (GQ.mk [k] : FG) = GQ.mk [] from h)
  rw [red_of_rdc (show Rdc [k] from trivial)] at h1
  cases h1
theorem phi_low {n : Int} (b : List Int) (hb : In (n - 1) b) : phi b (gx n) = gx n ∧ ∀ x, kill n (phi b x) = phi b (kill n x) := by
  induction b with
  | nil => exact ⟨rfl, fun _ => rfl⟩
  | cons y b ih =>
    obtain ⟨i1, i2⟩ := ih fun z hz => hb z (by simp [hz])
    have hy := hb y (by simp)
    have key : SL y (gx n) = gx n ∧ ∀ x, kill n (SL y x) = SL y (kill n x) := by
      by_cases h0 : 0 < y
      · refine ⟨SP_3 h0 (by omega) (by omega) (by omega), fun x => ?_⟩
        refine hom_ext ((kill_hom n).comp (SL_hom y)) ((SL_hom y).comp (kill_hom n)) (fun j hj => ?_) x
        show kill n (SL y (gx j)) = SL y (kill n (gx j))
        by_cases hn : j = n
        · subst hn; rw [SP_3 h0 hj (by omega) (by omega), kill_at, (SL_hom y).one]
        · rw [kill_not (j := j) hn (by omega)]
          by_cases h1 : j = y
          · subst h1
            rw [SP_1 h0]
            simp only [kill_hom _ _ _, (kill_hom _).inv, kill_not (k := n) (j := j) hn (by omega), kill_not (k := n) (j := j + 1) (by omega) (by omega)]
          · by_cases h2 : j = y + 1
            · subst h2; rw [SP_2 h0, kill_not (by omega) (by omega)]
            · rw [SP_3 h0 hj h1 h2, kill_not hn (by omega)]
      · obtain ⟨i, rfl⟩ : ∃ i, y = -i := ⟨-y, by omega⟩
        have h0 : 0 < i := by omega
        refine ⟨SN_3 h0 (by omega) (by omega) (by omega), fun x => ?_⟩
        refine hom_ext ((kill_hom n).comp (SL_hom _)) ((SL_hom _).comp (kill_hom n)) (fun j hj => ?_) x
        show kill n (SL (-i) (gx j)) = SL (-i) (kill n (gx j))
        by_cases hn : j = n
        · subst hn; rw [SN_3 h0 hj (by omega) (by omega), kill_at, (SL_hom _).one]
        · rw [kill_not (j := j) hn (by omega)]
          by_cases h1 : j = i
          · subst h1
            rw [SN_1 h0, kill_not (by omega) (by omega)]
          · by_cases h2 : j = i + 1
            · subst h2
              rw [SN_2 h0]
              simp only [kill_hom _ _ _, (kill_hom _).inv, kill_not (k := n) (j := i + 1) hn (by omega), kill_not (k := n) (j := i) (by omega) (by omega)]
            · rw [SN_3 h0 hj h1 h2, kill_not hn (by omega)]
    refine ⟨?_, fun x => ?_⟩
    · show phi b (SL y (gx n)) = gx n
      rw [key.1, i1]
    · show kill n (phi b (SL y x)) = phi b (SL y (kill n x))
      rw [i2, key.2]
theorem phi_high {w : List Int} {m : Int} (hw : In m w) {j : Int} (h : j = 0 ∨ m < j) : phi w (gx j) = gx j := by
  induction w with
  | nil => rfl
  | cons y w ih =>
    have hy := hw y (by simp)
    have : SL y (gx j) = gx j := by
      by_cases h0 : 0 < y
      · exact SP_3 h0 (by omega) (by omega) (by omega)
      · have := SN_3 (i := -y) (j := j) (by omega) (by omega) (by omega) (by omega)
        rwa [Int.neg_neg] at this
    show phi w (SL y (gx j)) = gx j
    rw [this, ih fun z hz => hw z (by simp [hz])]
/-- A word that acts as the identity is trivial. -/
theorem faith (n : Nat) (w : List Int) (hw : In n w) (h : ∀ j : Int, 0 < j → j ≤ n → phi w (gx j) = gx j) : Gen (BrR n) w [] := by
  induction n generalizing w with
  | zero =>
    cases w with
    | nil => exact .refl _
    | cons x w => have := hw x (by simp); omega
  | succ n ih =>
    have hid : ∀ x, phi w x = x := fun x => hom_ext (phi_hom w) isHom_id (fun j hj => by
      show phi w (gx j) = gx j
      by_cases h1 : j = 0 ∨ ((n + 1 : Nat) : Int) < j
      · exact phi_high hw h1
      · exact h j (by omega) (by omega)) x
    obtain ⟨u, b, d, ⟨l, hl, rfl⟩, hb, hd, e⟩ := comb (n := ((n + 1 : Nat) : Int)) (by omega) w hw
    have e' : ∀ x, phi w x = phiG (cG d : BG ((n + 1 : Nat) : Int)) (phi b (phiG (aV ((n + 1 : Nat) : Int) (GQ.mk l)) x)) := fun x => by
      rw [← phiG_mk (n := ((n + 1 : Nat) : Int)) w, e, phiG_mul, phiG_mul, phiG_mk]
    obtain ⟨G, hG, hG2⟩ := phi_aV_n l hl
    obtain ⟨b1, b2⟩ := phi_low b hb
    have hd0 : d = 0 := by
      have h1 := hid (gx ((n + 1 : Nat) : Int))
      rw [e', hG, phi_hom, phi_hom, (phi_hom _).inv, b1, phiG_hom, phiG_hom, (phiG_hom _).inv, phi_cG_n hd] at h1
      have h2 := congrArg (kill (((n + 1 : Nat) : Int) - d)) h1
      rw [kill_hom, kill_hom, (kill_hom _).inv, kill_at, GQ.mul_one, GQ.mul_inv] at h2
      by_cases h0 : d = 0
      · exact h0
      · rw [kill_not (by omega) (by omega)] at h2
        exact (gx_ne_one h2.symm).elim
    subst hd0
    have hb' : In n b := by rwa [show ((n + 1 : Nat) : Int) - 1 = n by omega] at hb
    have hbt : Gen (BrR n) b [] := by
      refine ih b hb' fun j j1 j2 => ?_
      have h1 := congrArg (kill ((n + 1 : Nat) : Int)) (hid (gx j))
      rw [e', cG_zero, phiG_one, b2, kill_aV l hl, kill_not (by omega) (by omega)] at h1
      exact h1
    have hbt' : (GQ.mk b : BG ((n + 1 : Nat) : Int)) = 1 := GQ.eq.2 (hbt.mono fun _ _ k => k.mono (by omega))
    have hu : (GQ.mk l : FG) = 1 := by
      have h1 := hid (gx ((n + 1 : Nat) : Int))
      rw [e', hG, cG_zero, phiG_one, phi_gen hbt] at h1
      have h3 : G * gx ((n + 1 : Nat) : Int) * G.inv = gx ((n + 1 : Nat) : Int) := h1
      rw [← hG2]
      clear h1 hG hG2
      obtain ⟨g, rfl⟩ : ∃ g, G = GQ.mk g := GQ.ind (p := fun G => ∃ g, G = GQ.mk g) (fun g => ⟨g, rfl⟩) G
      rw [← mk_red] at h3 ⊢
      exact kill_central (by omega) _ (rdc_red g) h3
    apply GQ.eq.1
    rw [e, hu, hbt', (aV_hom _).one]
    rfl
end Go.Proofs.Ytcinnbkhnonijaa
/-
  Plain law: a word that holds its main letter with one sign only is no trivial braid (Larue's argument on the last letter of an image). No program in sight.
-/
namespace Go.Proofs.Ytcinnbkhnonijaa
set_option maxRecDepth 10000

/-- The reduced word ends in the inverse of generator m. -/
def Ends (m : Int) (z : FG) : Prop := ∃ r, Rdc (r ++ [-m]) ∧ z = GQ.mk (r ++ [-m])
theorem push_snoc (t : List Int) (a b : Int) : push (t ++ [a]) b = if a = -b then t else t ++ [a] ++ [b] := by
  unfold push
  simp only [List.getLast?_append, List.getLast?_singleton, Option.some_or, Option.some.injEq, List.dropLast_concat]
theorem push_nil (b : Int) : push [] b = [b] := rfl
theorem push_keep {t : List Int} {a b : Int} (h : t.getLast? = some a) (hab : a ≠ -b) : push t b = t ++ [b] := by
  unfold push; rw [h, if_neg (by simpa using hab)]
/-! ### A letter above m -/
theorem rdc_far {A D : List Int} {e m : Int} (hA : Rdc (A ++ [e])) (he : e = m ∨ e = -m) (hD : Rdc D) (hn : ∀ y ∈ D, y ≠ m ∧ y ≠ -m) : Rdc (A ++ [e] ++ D) := by
  refine rdc_append.2 ⟨hA, hD, fun x y hx hy => ?_⟩
  have := hn y (List.mem_of_mem_head? hy)
  simp at hx
  omega
theorem red_far {A D : List Int} {e m : Int} (hA : Rdc (A ++ [e])) (he : e = m ∨ e = -m) (hn : ∀ y ∈ D, y ≠ m ∧ y ≠ -m) : pushAll (A ++ [e]) D = A ++ [e] ++ red D := by
  rw [← pushAll_red hA D]
  exact pushAll_of_rdc (rdc_far hA he (rdc_red D) fun y hy => hn y (red_mem hy))
theorem far_step {m : Int} (hm : 0 < m) (f : Int → List Int) (f1 : f m = [m]) (f2 : f (-m) = [-m]) (f3 : ∀ y, y ≠ m → y ≠ -m → ∀ z ∈ f y, z ≠ m ∧ z ≠ -m) (hinj : ∀ B, red (B.flatMap f) = [] → red B = [])
    (w : List Int) (hw : Rdc w) :
    ((∀ y ∈ w, y ≠ m ∧ y ≠ -m) ∧ ∀ y ∈ w.flatMap f, y ≠ m ∧ y ≠ -m) ∨
      ∃ p e B q, w = p ++ [e] ++ B ∧ (e = m ∨ e = -m) ∧ (∀ y ∈ B, y ≠ m ∧ y ≠ -m) ∧ (∀ y ∈ B.flatMap f, y ≠ m ∧ y ≠ -m) ∧ Rdc (q ++ [e]) ∧ red (w.flatMap f) = q ++ [e] ++ red (B.flatMap f) := by
  rcases nil_or_snoc w with rfl | ⟨l, a, rfl⟩
  · left; simp
  · have hlt : l.length < (l ++ [a]).length := by simp
    have ih := far_step hm f f1 f2 f3 hinj l (rdc_append.1 hw).1
    have ef : (l ++ [a]).flatMap f = l.flatMap f ++ f a := by simp
    by_cases ha : a = m ∨ a = -m
    · have fa : f a = [a] := by rcases ha with rfl | rfl <;> assumption
      right
      rcases ih with ⟨i1, i2⟩ | ⟨p, e, B, q, i1, i2, i3, i4, i5, i6⟩
      · refine ⟨l, a, [], red (l.flatMap f), by simp, ha, by simp, by simp, ?_, ?_⟩
        · refine rdc_append.2 ⟨rdc_red _, trivial, fun x y hx hy => ?_⟩
          have := i2 x (red_mem (List.mem_of_getLast? hx))
          simp at hy
          omega
        · rw [ef, fa, red_append]
          show push (red (l.flatMap f)) a = red (l.flatMap f) ++ [a] ++ red []
          rw [show red ([] : List Int) = [] from rfl, List.append_nil]
          unfold push
          rw [if_neg ?_]
          intro hx
          have := i2 _ (red_mem (List.mem_of_getLast? hx))
          omega
      · have hne : ∀ x, (q ++ [e] ++ red (B.flatMap f)).getLast? = some x → x ≠ -a := by
          intro x hx
          cases hC : red (B.flatMap f) with
          | nil =>
            have hB : B = [] := by
              have h1 := hinj B hC
              rw [i1] at hw
              have h2 : Rdc B := (rdc_append.1 (rdc_append.1 hw).1).2.1
              rwa [red_of_rdc h2] at h1
            rw [hC] at hx
            simp at hx
            subst hx
            rw [i1, hB, List.append_nil] at hw
            have := (rdc_append.1 hw).2.2 e a (by simp) rfl
            omega
          | cons c C =>
            have hmem : x ∈ red (B.flatMap f) := by
              rw [List.getLast?_append, hC] at hx
              rw [hC]
              cases hl : (c :: C).getLast? with
              | none => simp at hl
              | some y => rw [hl] at hx; simp at hx; subst hx; exact List.mem_of_getLast? hl
            have := i4 x (red_mem hmem)
            omega
        have hr : red (l.flatMap f ++ f a) = q ++ [e] ++ red (B.flatMap f) ++ [a] := by
          rw [fa, red_append, i6]
          show push _ a = _
          unfold push
          rw [if_neg ?_]
          intro hx
          exact hne _ hx rfl
        refine ⟨l, a, [], q ++ [e] ++ red (B.flatMap f), by simp, ha, by simp, by simp, ?_, ?_⟩
        · rw [← hr]; exact rdc_red _
        · rw [ef, hr]; simp [red, pushAll]
    · have ha' : a ≠ m ∧ a ≠ -m := by omega
      rcases ih with ⟨i1, i2⟩ | ⟨p, e, B, q, i1, i2, i3, i4, i5, i6⟩
      · left
        refine ⟨fun y hy => ?_, fun y hy => ?_⟩
        · rcases List.mem_append.1 hy with hy | hy
          · exact i1 y hy
          · simp at hy; subst hy; exact ha'
        · rw [ef] at hy
          rcases List.mem_append.1 hy with hy | hy
          · exact i2 y hy
          · exact f3 a ha'.1 ha'.2 y hy
      · right
        have i4' : ∀ y ∈ (B ++ [a]).flatMap f, y ≠ m ∧ y ≠ -m := fun y hy => by
          rw [List.flatMap_append] at hy
          rcases List.mem_append.1 hy with hy | hy
          · exact i4 y hy
          · exact f3 a ha'.1 ha'.2 y (by simpa using hy)
        refine ⟨p, e, B ++ [a], q, by rw [i1]; simp, i2, fun y hy => ?_, i4', i5, ?_⟩
        · rcases List.mem_append.1 hy with hy | hy
          · exact i3 y hy
          · simp at hy; subst hy; exact ha'
        · rw [← red_far i5 i2 i4', ef, red_append, i6, ← red_far i5 i2 i4, ← pushAll_append]
          simp
termination_by w.length
theorem ends_far {m l : Int} (hm : 0 < m) (hl : m < ab l) {z : FG} (h : Ends m z) : Ends m (SL l z) := by
  have h0 : l ≠ 0 := by unfold ab at hl; omega
  obtain ⟨r, hr, rfl⟩ := h
  have f1 : imgL l m = [m] := by rw [imgL, if_neg (by unfold ab at *; omega), if_neg (by unfold ab at *; omega)]
  have f2 : imgL l (-m) = [-m] := by rw [imgL_neg h0, f1]; rfl
  have f3 : ∀ y, y ≠ m → y ≠ -m → ∀ z ∈ imgL l y, z ≠ m ∧ z ≠ -m := by
    intro y h1 h2 z hz
    unfold imgL at hz
    split at hz
    · split at hz
      · unfold im1 at hz; split at hz <;> simp at hz <;> unfold ab at * <;> omega
      · unfold im1 at hz; split at hz <;> simp [inv] at hz <;> unfold ab at * <;> omega
    · split at hz
      · split at hz
        · unfold im2 at hz; split at hz <;> simp at hz <;> unfold ab at * <;> omega
        · unfold im2 at hz; split at hz <;> simp [inv] at hz <;> unfold ab at * <;> omega
      · simp at hz; omega
  have hmk : ∀ B, SL l (GQ.mk B) = GQ.mk (B.flatMap (imgL l)) := fun B => by rw [SL_act h0]; exact mk_red _
  have hinj : ∀ B, red (B.flatMap (imgL l)) = [] → red B = [] := by
    intro B hB
    have h1 : SL l (GQ.mk B) = 1 := by rw [hmk]; exact fg_eq.2 hB
    have h2 := congrArg (SL (-l)) h1
    rw [SL_can, (SL_hom _).one] at h2
    exact fg_eq.1 h2
  rcases far_step hm (imgL l) f1 f2 f3 hinj (r ++ [-m]) hr with ⟨i1, -⟩ | ⟨p, e, B, q, i1, i2, i3, i4, i5, i6⟩
  · exact absurd rfl (i1 (-m) (by simp)).2
  · have hB : B = [] := by
      rcases nil_or_snoc B with h | ⟨B', b, rfl⟩
      · exact h
      · have h1 : (p ++ [e] ++ (B' ++ [b])).getLast? = some b := by rw [← List.append_assoc, List.getLast?_concat]
        rw [← i1] at h1
        simp at h1
        have := i3 b (by simp)
        omega
    subst hB
    have he : e = -m := by
      have h1 := congrArg List.getLast? i1
      simp at h1
      omega
    subst he
    refine ⟨q, i5, ?_⟩
    rw [hmk, ← mk_red, i6]
    simp [red, pushAll]
/-! ### The letter m itself -/
def gT (m a : Int) : List Int := if a = m then [m + 1] else if a = -m then [-(m + 1)] else if a = m + 1 then [m] else if a = -(m + 1) then [-m] else [-m, a, m]
theorem gT_neg {m : Int} (hm : 0 < m) (a : Int) : gT m (-a) = inv (gT m a) := by
  unfold gT
  by_cases h1 : a = m
  · subst h1; rw [if_neg (by omega), if_pos rfl, if_pos rfl]; rfl
  · by_cases h2 : a = -m
    · subst h2; rw [if_pos (by omega), if_neg (by omega), if_pos rfl]; simp [inv]
    · by_cases h3 : a = m + 1
      · subst h3; rw [if_neg (by omega), if_neg (by omega), if_neg (by omega), if_pos rfl, if_neg (by omega), if_neg (by omega), if_pos rfl]; rfl
      · by_cases h4 : a = -(m + 1)
        · subst h4; rw [if_neg (by omega), if_neg (by omega), if_pos (by omega), if_neg (by omega), if_neg (by omega), if_neg (by omega), if_pos rfl]; simp [inv]
        · rw [if_neg (by omega), if_neg (by omega), if_neg (by omega), if_neg (by omega), if_neg (by omega), if_neg (by omega), if_neg (by omega), if_neg (by omega)]; simp [inv]
theorem SL_gT {m : Int} (hm : 0 < m) (w : List Int) : SL m (GQ.mk w) = gx m * GQ.mk (w.flatMap (gT m)) * (gx m).inv := by
  have hT : IsHom (lift (B := fun _ _ => False) (fun g => (GQ.mk (gT m g) : FG)) (fun x => by rw [gT_neg hm]; rfl) (fun _ _ h => h.elim)) := lift_hom _ _ _
  have h2 : IsHom (fun x => gx m * lift (B := fun _ _ => False) (fun g => (GQ.mk (gT m g) : FG)) (fun x => by rw [gT_neg hm]; rfl) (fun _ _ h => h.elim) x * (gx m).inv) := fun a b => by
    show gx m * _ * (gx m).inv = (gx m * _ * (gx m).inv) * (gx m * _ * (gx m).inv)
    rw [hT]; simp [GQ.mul_assoc]
  have h3 := hom_ext (SL_hom m) h2 (fun j hj => ?_) (GQ.mk w)
  · rw [h3, lift_mk, ev_flat]
  · rw [lift_one]
    by_cases h1 : j = m
    · subst h1; rw [show (GQ.mk [j] : FG) = gx j from rfl, SP_1 hm, gT, if_pos rfl]; rfl
    · by_cases h4 : j = m + 1
      · subst h4; rw [show (GQ.mk [m + 1] : FG) = gx (m + 1) from rfl, SP_2 hm, gT, if_neg (by omega), if_neg (by omega), if_pos rfl]; show gx m = gx m * gx m * (gx m).inv; rw [GQ.mul_assoc, GQ.mul_inv, GQ.mul_one]
      · rw [show (GQ.mk [j] : FG) = gx j from rfl, SP_3 hm hj h1 h4, gT, if_neg (by omega), if_neg (by omega), if_neg (by omega), if_neg (by omega)]
        show gx j = gx m * ((gx m).inv * (gx j * gx m)) * (gx m).inv
        simp [GQ.mul_assoc]
def oth (m z : Int) : Prop := z ≠ m ∧ z ≠ -m ∧ z ≠ m + 1 ∧ z ≠ -(m + 1)
/-- What the last letters of the image are, by the last letter of the word. -/
def Aut (m : Int) (w t : List Int) : Prop :=
  (w = [] ∧ t = []) ∨ (w.getLast? = some m ∧ t.getLast? = some (m + 1)) ∨ (w.getLast? = some (-m) ∧ t.getLast? = some (-(m + 1))) ∨
  (∃ z t', oth m z ∧ w.getLast? = some z ∧ t = t' ++ [z] ++ [m]) ∨
  (w.getLast? = some (m + 1) ∧ ∃ t', t = t' ++ [m] ∧ ∀ x, t'.getLast? = some x → ¬ oth m x) ∨
  (w.getLast? = some (-(m + 1)) ∧ ∃ x, t.getLast? = some x ∧ (x = -m ∨ oth m x))
theorem aut_step {m : Int} (hm : 0 < m) (w : List Int) (hw : Rdc w) : Aut m w (red (w.flatMap (gT m))) := by
  rcases nil_or_snoc w with rfl | ⟨l, a, rfl⟩
  · exact .inl ⟨rfl, rfl⟩
  · have hlt : l.length < (l ++ [a]).length := by simp
    have ih := aut_step hm l (rdc_append.1 hw).1
    have hlast : (l ++ [a]).getLast? = some a := by simp
    have hpre : ∀ x, l.getLast? = some x → a ≠ -x := fun x hx => (rdc_append.1 hw).2.2 x a hx rfl
    rw [show (l ++ [a]).flatMap (gT m) = l.flatMap (gT m) ++ gT m a by simp, red_append]
    generalize red (l.flatMap (gT m)) = t at ih ⊢
    by_cases a1 : a = m
    · subst a1
      rw [gT, if_pos rfl]
      refine .inr (.inl ⟨hlast, ?_⟩)
      show (push t (a + 1)).getLast? = _
      rcases ih with ⟨rfl, rfl⟩ | ⟨-, h⟩ | ⟨h, -⟩ | ⟨z, t', hz, -, rfl⟩ | ⟨-, t', rfl, -⟩ | ⟨-, x, h, hx⟩
      · rfl
      · rw [push_keep h (by omega)]; simp
      · exact (hpre _ h (by omega)).elim
      · rw [push_snoc, if_neg (by omega)]; simp
      · rw [push_snoc, if_neg (by omega)]; simp
      · rw [push_keep h (by unfold oth at hx; omega)]; simp
    · by_cases a2 : a = -m
      · subst a2
        rw [gT, if_neg a1, if_pos rfl]
        refine .inr (.inr (.inl ⟨hlast, ?_⟩))
        show (push t (-(m + 1))).getLast? = _
        rcases ih with ⟨rfl, rfl⟩ | ⟨h, -⟩ | ⟨-, h⟩ | ⟨z, t', hz, -, rfl⟩ | ⟨-, t', rfl, -⟩ | ⟨-, x, h, hx⟩
        · rfl
        · exact absurd rfl (hpre _ h)
        · rw [push_keep h (by omega)]; simp
        · rw [push_snoc, if_neg (by omega)]; simp
        · rw [push_snoc, if_neg (by omega)]; simp
        · rw [push_keep h (by unfold oth at hx; omega)]; simp
      · by_cases a3 : a = m + 1
        · subst a3
          rw [gT, if_neg a1, if_neg a2, if_pos rfl]
          refine .inr (.inr (.inr (.inr (.inl ⟨hlast, ?_⟩))))
          show ∃ t', push t m = t' ++ [m] ∧ _
          rcases ih with ⟨rfl, rfl⟩ | ⟨-, h⟩ | ⟨-, h⟩ | ⟨z, t', hz, -, rfl⟩ | ⟨-, t', rfl, -⟩ | ⟨h, -⟩
          · exact ⟨[], rfl, by simp⟩
          · exact ⟨t, push_keep h (by omega), fun x hx => by rw [h] at hx; simp at hx; unfold oth; omega⟩
          · exact ⟨t, push_keep h (by omega), fun x hx => by rw [h] at hx; simp at hx; unfold oth; omega⟩
          · exact ⟨_, by rw [push_snoc, if_neg (by omega)], fun x hx => by simp at hx; unfold oth; omega⟩
          · exact ⟨_, by rw [push_snoc, if_neg (by omega)], fun x hx => by simp at hx; unfold oth; omega⟩
          · exact (hpre _ h (by omega)).elim
        · by_cases a4 : a = -(m + 1)
          · subst a4
            rw [gT, if_neg a1, if_neg a2, if_neg a3, if_pos rfl]
            refine .inr (.inr (.inr (.inr (.inr ⟨hlast, ?_⟩))))
            show ∃ x, (push t (-m)).getLast? = some x ∧ _
            rcases ih with ⟨rfl, rfl⟩ | ⟨-, h⟩ | ⟨-, h⟩ | ⟨z, t', hz, -, rfl⟩ | ⟨h, -⟩ | ⟨-, x, h, hx⟩
            · exact ⟨-m, rfl, .inl rfl⟩
            · exact ⟨-m, by rw [push_keep h (by omega)]; simp, .inl rfl⟩
            · exact ⟨-m, by rw [push_keep h (by omega)]; simp, .inl rfl⟩
            · exact ⟨z, by rw [push_snoc, if_pos (by omega)]; simp, .inr hz⟩
            · exact absurd rfl (hpre _ h)
            · exact ⟨-m, by rw [push_keep h (by unfold oth at hx; omega)]; simp, .inl rfl⟩
          · have ho : oth m a := ⟨a1, a2, a3, a4⟩
            rw [gT, if_neg a1, if_neg a2, if_neg a3, if_neg a4]
            refine .inr (.inr (.inr (.inl ⟨a, ?_⟩)))
            have fin : ∀ s, (∀ x, s.getLast? = some x → x ≠ -a) → push (push s a) m = s ++ [a] ++ [m] := by
              intro s hs
              have e1 : push s a = s ++ [a] := by
                unfold push; rw [if_neg ?_]
                intro hx
                exact hs _ hx rfl
              rw [e1, push_snoc, if_neg a2]
            have app : (∀ x, t.getLast? = some x → x ≠ m) → push (push (push t (-m)) a) m = t ++ [-m] ++ [a] ++ [m] := by
              intro h
              have e1 : push t (-m) = t ++ [-m] := by
                unfold push; rw [if_neg ?_]
                intro hx
                exact h _ hx (by omega)
              rw [e1]
              exact fin _ fun x hx => by simp at hx; omega
            show ∃ t', oth m a ∧ (l ++ [a]).getLast? = some a ∧ push (push (push t (-m)) a) m = t' ++ [a] ++ [m]
            rcases ih with ⟨rfl, rfl⟩ | ⟨-, h⟩ | ⟨-, h⟩ | ⟨z, t', hz, hl, rfl⟩ | ⟨-, t', rfl, ht⟩ | ⟨-, x, h, hx⟩
            · exact ⟨_, ho, hlast, app fun x hx => by simp at hx⟩
            · exact ⟨_, ho, hlast, app fun x hx => by rw [h] at hx; simp at hx; omega⟩
            · exact ⟨_, ho, hlast, app fun x hx => by rw [h] at hx; simp at hx; omega⟩
            · refine ⟨t' ++ [z], ho, hlast, ?_⟩
              rw [push_snoc, if_pos (by omega)]
              exact fin _ fun x hx => by have := hpre _ hl; simp at hx; omega
            · refine ⟨t', ho, hlast, ?_⟩
              rw [push_snoc, if_pos (by omega)]
              exact fin _ fun x hx => by have := ht x hx; unfold oth at this ho; omega
            · exact ⟨_, ho, hlast, app fun y hy => by rw [h] at hy; simp at hy; subst hy; unfold oth at hx; omega⟩
termination_by w.length
theorem red_cons_rdc {k : Int} {r : List Int} (hr : Rdc r) : red (k :: r) = if r.head? = some (-k) then r.tail else k :: r := by
  by_cases h : r.head? = some (-k)
  · rw [if_pos h]
    cases r with
    | nil => cases h
    | cons x r =>
      simp at h
      subst h
      have : Gen (fun _ _ => False) (k :: -k :: r) r := (Gen.can (B := fun _ _ => False) k).right r
      rw [red_gen this, red_of_rdc hr.tail]; rfl
  · rw [if_neg h]
    refine red_of_rdc ?_
    cases r with
    | nil => trivial
    | cons x r => exact ⟨fun e => h (by rw [e]; rfl), hr⟩
theorem ends_at {m : Int} (hm : 0 < m) {z : FG} (h : Ends m z) : Ends m (SL m z) := by
  obtain ⟨r, hr, rfl⟩ := h
  have ha := aut_step hm r (rdc_append.1 hr).1
  have hpre : ∀ x, r.getLast? = some x → x ≠ m := fun x hx e => by
    have := (rdc_append.1 hr).2.2 x (-m) hx rfl
    omega
  generalize ht : red (r.flatMap (gT m)) = t at ha
  have htr : Rdc t := by rw [← ht]; exact rdc_red _
  have hlast : ∀ x, t.getLast? = some x → x ≠ m + 1 := by
    intro x hx
    rcases ha with ⟨-, rfl⟩ | ⟨h, -⟩ | ⟨-, h⟩ | ⟨z, t', hz, -, rfl⟩ | ⟨-, t', rfl, -⟩ | ⟨-, y, h, hy⟩
    · cases hx
    · exact absurd rfl (hpre _ h)
    · rw [h] at hx; simp at hx; omega
    · simp at hx; omega
    · simp at hx; omega
    · rw [h] at hx; simp at hx; unfold oth at hy; omega
  have h1 : red ((r ++ [-m]).flatMap (gT m)) = t ++ [-(m + 1)] := by
    rw [List.flatMap_append, red_append, ht]
    have : gT m (-m) = [-(m + 1)] := by rw [gT, if_neg (by omega), if_pos rfl]
    simp only [List.flatMap_cons, List.flatMap_nil, List.append_nil, this]
    show push t (-(m + 1)) = _
    unfold push
    rw [if_neg ?_]
    intro hx
    exact hlast _ hx (by omega)
  have hr2 : Rdc (t ++ [-(m + 1)]) := by rw [← h1]; exact rdc_red _
  have h2 : SL m (GQ.mk (r ++ [-m])) = GQ.mk (m :: (t ++ [-(m + 1)]) ++ [-m]) := by
    rw [SL_gT hm, ← mk_red ((r ++ [-m]).flatMap (gT m)), h1]; rfl
  rw [h2, ← mk_red, red_append]
  have h3 := red_cons_rdc (k := m) hr2
  have h4 : ∃ s, red (m :: (t ++ [-(m + 1)])) = s ++ [-(m + 1)] := by
    rw [h3]
    split
    · rename_i hh
      cases t with
      | nil => simp at hh; omega
      | cons x t => exact ⟨t, rfl⟩
    · exact ⟨m :: t, rfl⟩
  obtain ⟨s, hs⟩ := h4
  have h5 : pushAll (red (m :: (t ++ [-(m + 1)]))) [-m] = s ++ [-(m + 1)] ++ [-m] := by
    rw [hs]
    show push (s ++ [-(m + 1)]) (-m) = _
    rw [push_snoc, if_neg (by omega)]
  have h6 := rdc_pushAll (rdc_red (m :: (t ++ [-(m + 1)]))) [-m]
  rw [h5] at h6
  rw [h5]
  exact ⟨_, h6, rfl⟩
/-- A word in letters of size m at least, without the inverse of m, and with m: its image of generator m ends in the inverse of m. -/
theorem ends_pos {m : Int} (hm : 0 < m) (w : List Int) (z : FG) (hz : Ends m z) (hw : ∀ x ∈ w, m ≤ ab x ∧ x ≠ -m) : Ends m (phi w z) := by
  induction w generalizing z with
  | nil => exact hz
  | cons l w ih =>
    have hl := hw l (by simp)
    refine ih (SL l z) ?_ fun x hx => hw x (by simp [hx])
    by_cases h : m < ab l
    · exact ends_far hm h hz
    · obtain rfl : l = m := by unfold ab at *; omega
      exact ends_at hm hz
theorem ends_main {m : Int} (hm : 0 < m) (w : List Int) (hw : ∀ x ∈ w, m ≤ ab x ∧ x ≠ -m) (h : m ∈ w) : Ends m (phi w (gx m)) := by
  induction w with
  | nil => cases h
  | cons l w ih =>
    have hl := hw l (by simp)
    have hw' : ∀ x ∈ w, m ≤ ab x ∧ x ≠ -m := fun x hx => hw x (by simp [hx])
    show Ends m (phi w (SL l (gx m)))
    by_cases h1 : m < ab l
    · have e : SL l (gx m) = gx m := by
        by_cases h0 : 0 < l
        · exact SP_3 h0 (by omega) (by unfold ab at h1; omega) (by unfold ab at h1; omega)
        · have := SN_3 (i := -l) (j := m) (by unfold ab at h1; omega) (by omega) (by unfold ab at h1; omega) (by unfold ab at h1; omega)
          rwa [Int.neg_neg] at this
      rw [e]
      refine ih hw' ?_
      rcases List.mem_cons.1 h with h | h
      · subst h; unfold ab at h1; omega
      · exact h
    · obtain rfl : l = m := by unfold ab at *; omega
      refine ends_pos hm w _ ?_ hw'
      rw [SP_1 hm]
      exact ⟨[l, l + 1], ⟨by omega, by omega, trivial⟩, rfl⟩
/-- Such a word is no trivial braid. -/
theorem main_ne {n m : Int} (hm : 0 < m) (w : List Int) (hw : ∀ x ∈ w, m ≤ ab x ∧ x ≠ -m) (h : m ∈ w) : ¬ Gen (BrR n) w [] := by
  intro hg
  have h1 := ends_main hm w hw h
  rw [phi_gen hg] at h1
  obtain ⟨r, hr, e⟩ := h1
  have := fg_eq.1 (show (GQ.mk [m] : FG) = GQ.mk (r ++ [-m]) from e)
  rw [red_of_rdc hr, red_of_rdc (show Rdc [m] from trivial)] at this
  have h2 := congrArg List.getLast? this
  simp at h2
  omega
end Go.Proofs.Ytcinnbkhnonijaa
/-
  Plain law: permutations, their letters in front and behind, and lists of them in which letters move to the left: such moves end, and end in one list. No program in sight.
-/
namespace Go.Proofs.Ytcinnbkhnonijaa
set_option maxRecDepth 10000

structure Pm where
  f : Int → Int
  g : Int → Int
  fg : ∀ x, f (g x) = x
  gf : ∀ x, g (f x) = x
theorem Pm.ext_ {p q : Pm} (h : ∀ x, p.f x = q.f x) : p = q := by
  have h1 : p.f = q.f := funext h
  have h2 : p.g = q.g := funext fun x => by
    have := q.gf (p.g x)
    rw [← h1, p.fg] at this
    exact this.symm
  cases p; cases q
  simp only at h1 h2
  subst h1 h2
  rfl
theorem Pm.inj {p : Pm} {x y : Int} (h : p.f x = p.f y) : x = y := by have := congrArg p.g h; rwa [p.gf, p.gf] at this
theorem Pm.ginj {p : Pm} {x y : Int} (h : p.g x = p.g y) : x = y := by have := congrArg p.f h; rwa [p.fg, p.fg] at this
/-- k - 1 and k are exchanged. -/
def tr (k x : Int) : Int := if x = k - 1 then k else if x = k then k - 1 else x
theorem tr_tr (k x : Int) : tr k (tr k x) = x := by unfold tr; split <;> (try split) <;> (try split) <;> omega
theorem tr_lt {k x y : Int} (h : x < y) : tr k x < tr k y ∨ (x = k - 1 ∧ y = k) := by unfold tr; split <;> split <;> (try split) <;> (try split) <;> omega
theorem tr_lo (k : Int) : tr k (k - 1) = k := by unfold tr; rw [if_pos rfl]
theorem tr_hi (k : Int) : tr k k = k - 1 := by unfold tr; rw [if_neg (by omega), if_pos rfl]
theorem tr_no {k x : Int} (h1 : x ≠ k - 1) (h2 : x ≠ k) : tr k x = x := by unfold tr; rw [if_neg h1, if_neg h2]
def pOne : Pm := ⟨fun x => x, fun x => x, fun _ => rfl, fun _ => rfl⟩
/-- A letter in front, and one behind. -/
def bef (k : Int) (p : Pm) : Pm := ⟨fun x => p.f (tr k x), fun x => tr k (p.g x), fun x => by simp only [tr_tr, p.fg], fun x => by simp only [p.gf, tr_tr]⟩
def beh (p : Pm) (k : Int) : Pm := ⟨fun x => tr k (p.f x), fun x => p.g (tr k x), fun x => by simp only [p.fg, tr_tr], fun x => by simp only [tr_tr, p.gf]⟩
def Sta (k : Int) (p : Pm) : Prop := p.f k < p.f (k - 1)
def Fi (k : Int) (p : Pm) : Prop := p.g k < p.g (k - 1)
theorem not_fi {k : Int} {p : Pm} (h : ¬ Fi k p) : p.g (k - 1) < p.g k := by
  unfold Fi at h
  by_cases e : p.g (k - 1) = p.g k
  · have := Pm.ginj e; omega
  · omega
theorem bef_beh (k l : Int) (p : Pm) : bef k (beh p l) = beh (bef k p) l := rfl
theorem bef_bef (k : Int) (p : Pm) : bef k (bef k p) = p := Pm.ext_ fun x => by show p.f (tr k (tr k x)) = _; rw [tr_tr]
theorem fi_bef {k l : Int} {q : Pm} (h1 : Sta k q) (h2 : ¬ Fi l q) : ¬ Fi l (bef k q) := by
  intro h
  have h3 := not_fi h2
  have h4 : tr k (q.g l) < tr k (q.g (l - 1)) := h
  rcases tr_lt (k := k) h3 with h5 | ⟨h5, h6⟩
  · omega
  · have e1 := q.fg (l - 1)
    have e2 := q.fg l
    rw [h5] at e1
    rw [h6] at e2
    unfold Sta at h1
    omega
theorem sta_beh {k l : Int} {q : Pm} (h1 : Sta k q) (h2 : ¬ Fi l q) : Sta k (beh q l) := by
  show tr l (q.f k) < tr l (q.f (k - 1))
  rcases tr_lt (k := l) h1 with h5 | ⟨h5, h6⟩
  · exact h5
  · have e1 := q.gf k
    have e2 := q.gf (k - 1)
    rw [h5] at e1
    rw [h6] at e2
    have := not_fi h2
    omega
theorem sta_far {k l : Int} {q : Pm} (h : k + 2 ≤ l ∨ l + 2 ≤ k) : Sta l (bef k q) ↔ Sta l q := by
  show q.f (tr k l) < q.f (tr k (l - 1)) ↔ _
  rw [tr_no (by omega) (by omega), tr_no (by omega) (by omega)]; rfl
theorem fi_far {k l : Int} {q : Pm} (h : k + 2 ≤ l ∨ l + 2 ≤ k) : Fi l (beh q k) ↔ Fi l q := by
  show q.g (tr k l) < q.g (tr k (l - 1)) ↔ _
  rw [tr_no (by omega) (by omega), tr_no (by omega) (by omega)]; rfl
theorem tr_far {k l : Int} (h : k + 2 ≤ l ∨ l + 2 ≤ k) (x : Int) : tr k (tr l x) = tr l (tr k x) := by
  unfold tr
  by_cases h1 : x = k - 1
  · rw [if_neg (show ¬ x = l - 1 by omega), if_neg (show ¬ x = l by omega), if_pos h1, if_neg (by omega), if_neg (by omega)]
  · by_cases h2 : x = k
    · rw [if_neg (show ¬ x = l - 1 by omega), if_neg (show ¬ x = l by omega), if_neg h1, if_pos h2, if_neg (by omega), if_neg (by omega)]
    · rw [if_neg h1, if_neg h2]
      split
      · rw [if_neg (by omega), if_neg (by omega)]
      · split
        · rw [if_neg (by omega), if_neg (by omega)]
        · rfl
theorem tr_three (k x : Int) : tr k (tr (k + 1) (tr k x)) = tr (k + 1) (tr k (tr (k + 1) x)) := by
  by_cases h1 : x = k - 1
  · subst h1
    rw [tr_lo, show tr (k + 1) k = k + 1 by unfold tr; rw [if_pos (by omega)], tr_no (k := k) (by omega) (by omega), tr_no (k := k + 1) (x := k - 1) (by omega) (by omega), tr_lo, show tr (k + 1) k = k + 1 by unfold tr; rw [if_pos (by omega)]]
  · by_cases h2 : x = k
    · subst h2
      rw [tr_hi, tr_no (k := x + 1) (x := x - 1) (by omega) (by omega), tr_lo, show tr (x + 1) x = x + 1 by unfold tr; rw [if_pos (by omega)], tr_no (k := x) (x := x + 1) (by omega) (by omega), tr_hi]; omega
    · by_cases h3 : x = k + 1
      · subst h3
        rw [tr_no (k := k) (x := k + 1) (by omega) (by omega), tr_hi, show k + 1 - 1 = k by omega, tr_hi, tr_no (k := k + 1) (x := k - 1) (by omega) (by omega)]
      · rw [tr_no h1 h2, tr_no (k := k + 1) (by omega) h3, tr_no h1 h2, tr_no (k := k + 1) (by omega) h3]
/-- All but the numbers from 0 below n stay. -/
def Sup (n : Int) (p : Pm) : Prop := ∀ x, (x < 0 ∨ n ≤ x) → p.f x = x
theorem Sup.g {n : Int} {p : Pm} (h : Sup n p) : ∀ x, (x < 0 ∨ n ≤ x) → p.g x = x := fun x hx => by have := p.gf x; rwa [h x hx] at this
theorem Sup.rg {n : Int} {p : Pm} (h : Sup n p) {x : Int} (h0 : 0 ≤ x) (h1 : x < n) : 0 ≤ p.f x ∧ p.f x < n := by
  by_cases hc : p.f x < 0 ∨ n ≤ p.f x
  · have := p.inj (h _ hc)
    omega
  · omega
theorem Sup.rgg {n : Int} {p : Pm} (h : Sup n p) {x : Int} (h0 : 0 ≤ x) (h1 : x < n) : 0 ≤ p.g x ∧ p.g x < n := by
  by_cases hc : p.g x < 0 ∨ n ≤ p.g x
  · have := p.ginj (h.g _ hc)
    omega
  · omega
theorem Sup.one (n : Int) : Sup n pOne := fun _ _ => rfl
theorem Sup.bef {n k : Int} {p : Pm} (h : Sup n p) (h0 : 0 < k) (h1 : k < n) : Sup n (bef k p) := fun x hx => by
  show p.f (tr k x) = x
  rw [tr_no (by omega) (by omega), h x hx]
theorem Sup.beh {n k : Int} {p : Pm} (h : Sup n p) (h0 : 0 < k) (h1 : k < n) : Sup n (beh p k) := fun x hx => by
  show tr k (p.f x) = x
  rw [h x hx, tr_no (by omega) (by omega)]
/-! ### Moves -/
inductive Mv (n : Int) : List Pm → List Pm → Prop
  | here (p q : Pm) (r : List Pm) (k : Int) : 0 < k → k < n → ¬ Fi k p → Sta k q → Mv n (p :: q :: r) (beh p k :: bef k q :: r)
  | cons (p : Pm) {a b : List Pm} : Mv n a b → Mv n (p :: a) (p :: b)
inductive Mvs (n : Int) : List Pm → List Pm → Prop
  | refl (a : List Pm) : Mvs n a a
  | head {a b c : List Pm} : Mv n a b → Mvs n b c → Mvs n a c
section
variable {n : Int}
theorem Mvs.trans {a b c : List Pm} (h : Mvs n a b) (k : Mvs n b c) : Mvs n a c := by
  induction h with
  | refl a => exact k
  | head h _ ih => exact .head h (ih k)
theorem Mvs.one {a b : List Pm} (h : Mv n a b) : Mvs n a b := .head h (.refl _)
theorem Mvs.cons (p : Pm) {a b : List Pm} (h : Mvs n a b) : Mvs n (p :: a) (p :: b) := by
  induction h with
  | refl a => exact .refl _
  | head h _ ih => exact .head (.cons p h) ih
theorem Mvs.left (l : List Pm) {a b : List Pm} (h : Mvs n a b) : Mvs n (l ++ a) (l ++ b) := by
  induction l with
  | nil => exact h
  | cons p l ih => exact ih.cons p
theorem Mv.right (r : List Pm) {a b : List Pm} (h : Mv n a b) : Mv n (a ++ r) (b ++ r) := by
  induction h with
  | here p q s k h0 h1 h2 h3 => exact .here p q (s ++ r) k h0 h1 h2 h3
  | cons p _ ih => exact .cons p ih
theorem Mvs.right (r : List Pm) {a b : List Pm} (h : Mvs n a b) : Mvs n (a ++ r) (b ++ r) := by
  induction h with
  | refl a => exact .refl _
  | head h _ ih => exact .head (h.right r) ih
theorem Mv.len {a b : List Pm} (h : Mv n a b) : b.length = a.length := by
  induction h with
  | here => rfl
  | cons p _ ih => simp [ih]
def Sups (n : Int) (a : List Pm) : Prop := ∀ p ∈ a, Sup n p
theorem Mv.sups {a b : List Pm} (h : Mv n a b) (hs : Sups n a) : Sups n b := by
  induction h with
  | here p q r k h0 h1 h2 h3 =>
    intro x hx
    rcases List.mem_cons.1 hx with rfl | hx
    · exact (hs p (by simp)).beh h0 h1
    · rcases List.mem_cons.1 hx with rfl | hx
      · exact (hs q (by simp)).bef h0 h1
      · exact hs x (by simp [hx])
  | cons p _ ih =>
    intro x hx
    rcases List.mem_cons.1 hx with rfl | hx
    · exact hs x (by simp)
    · exact ih (fun y hy => hs y (by simp [hy])) x hx
theorem Mvs.sups {a b : List Pm} (h : Mvs n a b) (hs : Sups n a) : Sups n b := by
  induction h with
  | refl a => exact hs
  | head h _ ih => exact ih (h.sups hs)
/-- Two letters that both may move: their moves meet again. -/
theorem meet_here (p q : Pm) (r : List Pm) (k l : Int) (k0 : 0 < k) (k1 : k < n) (hk : ¬ Fi k p) (sk : Sta k q) (l0 : 0 < l) (l1 : l < n) (hl : ¬ Fi l p) (sl : Sta l q) (hkl : k < l) :
    ∃ d, Mvs n (beh p k :: bef k q :: r) d ∧ Mvs n (beh p l :: bef l q :: r) d := by
  by_cases h : k + 2 ≤ l
  · refine ⟨beh (beh p k) l :: bef l (bef k q) :: r, .one (.here _ _ _ l l0 l1 (by rw [fi_far (.inl h)]; exact hl) ((sta_far (.inl h)).2 sl)), ?_⟩
    have e1 : beh (beh p k) l = beh (beh p l) k := Pm.ext_ fun x => (tr_far (.inl h) (p.f x)).symm
    have e2 : bef l (bef k q) = bef k (bef l q) := Pm.ext_ fun x => by show q.f (tr k (tr l x)) = q.f (tr l (tr k x)); rw [tr_far (.inl h)]
    rw [e1, e2]
    exact .one (.here _ _ _ k k0 k1 (by rw [fi_far (.inr h)]; exact hk) ((sta_far (.inr h)).2 sk))
  · obtain rfl : l = k + 1 := by omega
    have nk := not_fi hk
    have nl := not_fi hl
    rw [show k + 1 - 1 = k by omega] at nl
    have sk' : q.f k < q.f (k - 1) := sk
    have sl' : q.f (k + 1) < q.f k := by have : q.f (k + 1) < q.f (k + 1 - 1) := sl; rwa [show k + 1 - 1 = k by omega] at this
    have t1 : tr (k + 1) k = k + 1 := by unfold tr; rw [if_pos (by omega)]
    have t2 : tr (k + 1) (k + 1) = k := by rw [tr_hi]; omega
    have t3 : tr k (k + 1) = k + 1 := tr_no (by omega) (by omega)
    have t4 : tr (k + 1) (k - 1) = k - 1 := tr_no (by omega) (by omega)
    have ee : k + 1 - 1 = k := by omega
    have u1 : Mvs n (beh p k :: bef k q :: r) (beh (beh (beh p k) (k + 1)) k :: bef k (bef (k + 1) (bef k q)) :: r) := by
      refine .head (.here _ _ _ (k + 1) l0 l1 ?_ ?_) (.one (.here _ _ _ k k0 k1 ?_ ?_))
      · show ¬ p.g (tr k (k + 1)) < p.g (tr k (k + 1 - 1))
        rw [ee, t3, tr_hi]; omega
      · show q.f (tr k (k + 1)) < q.f (tr k (k + 1 - 1))
        rw [ee, t3, tr_hi]; omega
      · show ¬ p.g (tr k (tr (k + 1) k)) < p.g (tr k (tr (k + 1) (k - 1)))
        rw [t1, t3, t4, tr_lo]; omega
      · show q.f (tr k (tr (k + 1) k)) < q.f (tr k (tr (k + 1) (k - 1)))
        rw [t1, t3, t4, tr_lo]; exact sl'
    have u2 : Mvs n (beh p (k + 1) :: bef (k + 1) q :: r) (beh (beh (beh p (k + 1)) k) (k + 1) :: bef (k + 1) (bef k (bef (k + 1) q)) :: r) := by
      refine .head (.here _ _ _ k k0 k1 ?_ ?_) (.one (.here _ _ _ (k + 1) l0 l1 ?_ ?_))
      · show ¬ p.g (tr (k + 1) k) < p.g (tr (k + 1) (k - 1))
        rw [t1, t4]; omega
      · show q.f (tr (k + 1) k) < q.f (tr (k + 1) (k - 1))
        rw [t1, t4]; omega
      · show ¬ p.g (tr (k + 1) (tr k (k + 1))) < p.g (tr (k + 1) (tr k (k + 1 - 1)))
        rw [ee, t3, t2, tr_hi, t4]; omega
      · show q.f (tr (k + 1) (tr k (k + 1))) < q.f (tr (k + 1) (tr k (k + 1 - 1)))
        rw [ee, t3, t2, tr_hi, t4]; exact sk'
    have e1 : beh (beh (beh p k) (k + 1)) k = beh (beh (beh p (k + 1)) k) (k + 1) := Pm.ext_ fun x => tr_three k (p.f x)
    have e2 : bef k (bef (k + 1) (bef k q)) = bef (k + 1) (bef k (bef (k + 1) q)) := Pm.ext_ fun x => by
      show q.f (tr k (tr (k + 1) (tr k x))) = q.f (tr (k + 1) (tr k (tr (k + 1) x)))
      rw [tr_three]
    rw [e1, e2] at u1
    exact ⟨_, u1, u2⟩
theorem mv_meet {a b c : List Pm} (h : Mv n a b) (h' : Mv n a c) : ∃ d, Mvs n b d ∧ Mvs n c d := by
  induction h generalizing c with
  | here p q r k k0 k1 hk sk =>
    cases h' with
    | here _ _ _ l l0 l1 hl sl =>
      by_cases e : k = l
      · subst e; exact ⟨_, .refl _, .refl _⟩
      · by_cases hkl : k < l
        · exact meet_here p q r k l k0 k1 hk sk l0 l1 hl sl hkl
        · obtain ⟨d, d1, d2⟩ := meet_here p q r l k l0 l1 hl sl k0 k1 hk sk (by omega)
          exact ⟨d, d2, d1⟩
    | cons _ h2 =>
      cases h2 with
      | here _ q2 r2 l l0 l1 hl sl =>
        exact ⟨beh p k :: beh (bef k q) l :: bef l q2 :: r2, .one (.cons _ (.here _ _ _ l l0 l1 (fi_bef sk hl) sl)), .one (.here _ _ _ k k0 k1 hk (sta_beh sk hl))⟩
      | @cons _ _ b2 h3 => exact ⟨beh p k :: bef k q :: b2, .one (.cons _ (.cons _ h3)), .one (.here _ _ _ k k0 k1 hk sk)⟩
  | @cons p a b h ih =>
    cases h' with
    | here _ q r k k0 k1 hk sk =>
      cases h with
      | here _ q2 r2 l l0 l1 hl sl =>
        exact ⟨beh p k :: beh (bef k q) l :: bef l q2 :: r2, .one (.here _ _ _ k k0 k1 hk (sta_beh sk hl)), .one (.cons _ (.here _ _ _ l l0 l1 (fi_bef sk hl) sl))⟩
      | @cons _ _ b2 h3 => exact ⟨beh p k :: bef k q :: b2, .one (.here _ _ _ k k0 k1 hk sk), .one (.cons _ (.cons _ h3))⟩
    | cons _ h2 =>
      obtain ⟨d, d1, d2⟩ := ih h2
      exact ⟨p :: d, d1.cons p, d2.cons p⟩
end
/-! ### Moves end -/
def sumW : Nat → (Int → Int) → Int
  | 0, _ => 0
  | m + 1, h => sumW m h + m * h m
theorem sumW_low (h : Int → Int) (k : Int) (m : Nat) (hm : (m : Int) ≤ k - 1) : sumW m (fun x => h (tr k x)) = sumW m h := by
  induction m with
  | zero => rfl
  | succ m ih => rw [sumW, sumW, ih (by omega), tr_no (by omega) (by omega)]
theorem sumW_swap (h : Int → Int) (k : Int) (h0 : 0 < k) (m : Nat) (hm : k < m) : sumW m (fun x => h (tr k x)) = sumW m h + (h (k - 1) - h k) := by
  induction m with
  | zero => omega
  | succ m ih =>
    by_cases hk : k < m
    · rw [sumW, sumW, ih hk, tr_no (by omega) (by omega)]; omega
    · obtain rfl : k = m := by omega
      obtain ⟨j, rfl⟩ : ∃ j, m = j + 1 := ⟨m - 1, by omega⟩
      rw [sumW, sumW, sumW, sumW, sumW_low h _ j (by omega), tr_hi, show ((j : Nat) : Int) = ((j + 1 : Nat) : Int) - 1 by omega, tr_lo]
      generalize h (((j + 1 : Nat) : Int) - 1) = a
      generalize h ((j + 1 : Nat) : Int) = b
      generalize sumW j h = s
      rw [show ((j + 1 : Nat) : Int) = (j : Int) + 1 by omega]
      simp only [Int.add_mul, Int.one_mul, Int.add_sub_cancel]
      omega
theorem sumW_bd (h : Int → Int) (b : Int) (hb : ∀ x : Int, 0 ≤ x → x < b → 0 ≤ h x ∧ h x ≤ b) (m : Nat) (hm : (m : Int) ≤ b) : 0 ≤ sumW m h ∧ sumW m h ≤ m * (b * b) := by
  induction m with
  | zero => simp [sumW]
  | succ m ih =>
    have h1 := ih (by omega)
    have h2 := hb m (by omega) (by omega)
    have h3 : (m : Int) * h m ≤ b * b := by
      have a1 : (m : Int) * h m ≤ m * b := Int.mul_le_mul_of_nonneg_left h2.2 (by omega)
      have a2 : (m : Int) * b ≤ b * b := Int.mul_le_mul_of_nonneg_right (by omega) (by omega)
      omega
    have h4 : 0 ≤ (m : Int) * h m := Int.mul_nonneg (by omega) h2.1
    rw [sumW, show ((m + 1 : Nat) : Int) * (b * b) = m * (b * b) + b * b by rw [show ((m + 1 : Nat) : Int) = (m : Int) + 1 by omega, Int.add_mul, Int.one_mul]]
    omega
/-- The weight of a permutation of numbers below n, and a bound. -/
def wt (n : Nat) (p : Pm) : Nat := (sumW n p.g).toNat
def wtB (n : Nat) : Nat := n * (n * n) + 1
theorem wt_lt {n : Nat} {p : Pm} (h : Sup n p) : wt n p < wtB n ∧ (wt n p : Int) = sumW n p.g := by
  have := sumW_bd p.g n (fun x h0 h1 => by have := h.rgg h0 h1; omega) n (Int.le_refl _)
  have h2 : ((n * (n * n) : Nat) : Int) = n * (n * n) := by simp
  unfold wt wtB
  omega
theorem wt_beh {n : Nat} {p : Pm} {k : Int} (h : Sup n p) (h0 : 0 < k) (h1 : k < n) (h2 : ¬ Fi k p) : wt n (beh p k) + 1 ≤ wt n p := by
  have e := sumW_swap p.g k h0 n h1
  have a := (wt_lt h).2
  have b := (wt_lt (h.beh h0 h1)).2
  have c := not_fi h2
  have d : sumW n (beh p k).g = sumW n fun x => p.g (tr k x) := rfl
  omega
def wtL (n : Nat) : List Pm → Nat
  | [] => 0
  | p :: r => wt n p * wtB n ^ r.length + wtL n r
theorem wtL_mv {n : Nat} {a b : List Pm} (h : Mv n a b) (hs : Sups n a) : wtL n b < wtL n a := by
  induction h with
  | here p q r k h0 h1 h2 h3 =>
    have e1 := wt_beh (hs p (by simp)) h0 h1 h2
    have e2 := (wt_lt ((hs q (by simp)).bef h0 h1)).1
    have hX : 0 < wtB n ^ r.length := Nat.pow_pos (by unfold wtB; omega)
    simp only [wtL, List.length_cons, Nat.pow_succ]
    generalize wtB n ^ r.length = X at *
    generalize wt n (beh p k) = W' at *
    generalize wt n (bef k q) = V' at *
    generalize wt n p = W at *
    generalize wt n q = V at *
    generalize wtB n = C at *
    have a1 : (W' + 1) * (X * C) ≤ W * (X * C) := Nat.mul_le_mul_right _ e1
    rw [Nat.add_mul, Nat.one_mul] at a1
    have a2 : (V' + 1) * X ≤ C * X := Nat.mul_le_mul_right _ e2
    rw [Nat.add_mul, Nat.one_mul, Nat.mul_comm C X] at a2
    omega
  | cons p h ih =>
    have := ih fun x hx => hs x (by simp [hx])
    simp only [wtL, h.len]
    omega
def Irr (n : Int) (a : List Pm) : Prop := ∀ b, ¬ Mv n a b
theorem irr_ex (n : Nat) (a : List Pm) (hs : Sups n a) : ∃ b, Mvs n a b ∧ Irr n b := by
  by_cases h : ∃ b, Mv n a b
  · obtain ⟨b, hb⟩ := h
    have hlt := wtL_mv hb hs
    obtain ⟨c, hc, hi⟩ := irr_ex n b (hb.sups hs)
    exact ⟨c, .head hb hc, hi⟩
  · exact ⟨a, .refl a, fun b hb => h ⟨b, hb⟩⟩
termination_by wtL n a
theorem newman {n : Nat} (a : List Pm) (hs : Sups n a) {b c : List Pm} (h : Mvs n a b) (h' : Mvs n a c) : ∃ d, Mvs n b d ∧ Mvs n c d := by
  cases h with
  | refl => exact ⟨c, h', .refl _⟩
  | @head _ b1 _ hb hb2 =>
    cases h' with
    | refl => exact ⟨b, .refl _, .head hb hb2⟩
    | @head _ c1 _ hc hc2 =>
      have l1 := wtL_mv hb hs
      have l2 := wtL_mv hc hs
      obtain ⟨d, d1, d2⟩ := mv_meet hb hc
      obtain ⟨e, e1, e2⟩ := newman b1 (hb.sups hs) hb2 d1
      obtain ⟨f, f1, f2⟩ := newman c1 (hc.sups hs) hc2 (d2.trans e2)
      exact ⟨f, e1.trans f2, f1⟩
termination_by wtL n a
/-- Lists that moves bring together. -/
def Jn (n : Int) (a b : List Pm) : Prop := ∃ d, Mvs n a d ∧ Mvs n b d
theorem Jn.refl {n : Int} (a : List Pm) : Jn n a a := ⟨a, .refl _, .refl _⟩
theorem Jn.symm {n : Int} {a b : List Pm} (h : Jn n a b) : Jn n b a := h.elim fun d h => ⟨d, h.2, h.1⟩
theorem Jn.of {n : Int} {a b : List Pm} (h : Mvs n a b) : Jn n a b := ⟨b, h, .refl _⟩
theorem Jn.trans {n : Nat} {a b c : List Pm} (h : Jn n a b) (k : Jn n b c) (hs : Sups n b) : Jn n a c := by
  obtain ⟨d, d1, d2⟩ := h
  obtain ⟨e, e1, e2⟩ := k
  obtain ⟨f, f1, f2⟩ := newman b hs d2 e1
  exact ⟨f, d1.trans f1, e2.trans f2⟩
theorem Jn.left {n : Int} (l : List Pm) {a b : List Pm} (h : Jn n a b) : Jn n (l ++ a) (l ++ b) := h.elim fun _ h => ⟨_, h.1.left l, h.2.left l⟩
theorem Jn.right {n : Int} (r : List Pm) {a b : List Pm} (h : Jn n a b) : Jn n (a ++ r) (b ++ r) := h.elim fun _ h => ⟨_, h.1.right r, h.2.right r⟩
theorem Irr.mvs {n : Int} {a b : List Pm} (h : Irr n a) (k : Mvs n a b) : b = a := by
  cases k with
  | refl => rfl
  | head hb _ => exact (h _ hb).elim
theorem Jn.irr {n : Int} {a b : List Pm} (h : Jn n a b) (ha : Irr n a) (hb : Irr n b) : a = b := by
  obtain ⟨d, d1, d2⟩ := h
  rw [← ha.mvs d1, ← hb.mvs d2]
end Go.Proofs.Ytcinnbkhnonijaa
/-
  Plain law: the list of permutations of a braid word (each letter one; an inverse letter turns all before it and counts a half twist), and that equal words have lists that moves bring together. No program in sight.
-/
namespace Go.Proofs.Ytcinnbkhnonijaa
set_option maxRecDepth 10000

def comp (x y : Pm) : Pm := ⟨fun i => y.f (x.f i), fun v => x.g (y.g v), fun v => by simp only [x.fg, y.fg], fun i => by simp only [y.gf, x.gf]⟩
/-- No inversion of x is undone by y. -/
def Red (x y : Pm) : Prop := ∀ u v, u < v → x.g v < x.g u → y.f u < y.f v
theorem Sup.comp {n : Int} {x y : Pm} (hx : Sup n x) (hy : Sup n y) : Sup n (comp x y) := fun i hi => by
  show y.f (x.f i) = i
  rw [hx i hi, hy i hi]
theorem rises {n : Nat} {y : Pm} (hs : Sup n y) (h : ∀ k : Int, 0 < k → k < n → ¬ Sta k y) : y = pOne := by
  have up : ∀ i : Nat, i < n → (i : Int) ≤ y.f i := by
    intro i
    induction i with
    | zero => intro hi; exact (hs.rg (Int.le_refl 0) (by omega)).1
    | succ i ih =>
      intro hi
      have h1 := ih (by omega)
      have h2 := h ((i + 1 : Nat) : Int) (by omega) (by omega)
      unfold Sta at h2
      rw [show ((i + 1 : Nat) : Int) - 1 = i by omega] at h2
      by_cases e : y.f i = y.f ((i + 1 : Nat) : Int)
      · have := y.inj e; omega
      · omega
  have down : ∀ j i : Nat, i + j + 1 = n → y.f i ≤ (i : Int) := by
    intro j
    induction j with
    | zero => intro i hi; have := (hs.rg (x := i) (by omega) (by omega)).2; omega
    | succ j ih =>
      intro i hi
      have h1 := ih (i + 1) (by omega)
      have h2 := h ((i + 1 : Nat) : Int) (by omega) (by omega)
      unfold Sta at h2
      rw [show ((i + 1 : Nat) : Int) - 1 = i by omega] at h2
      by_cases e : y.f i = y.f ((i + 1 : Nat) : Int)
      · have := y.inj e; omega
      · omega
  refine Pm.ext_ fun x => ?_
  show y.f x = x
  by_cases hx : x < 0 ∨ (n : Int) ≤ x
  · exact hs x hx
  · have h1 := up x.toNat (by omega)
    have h2 := down (n - 1 - x.toNat) x.toNat (by omega)
    rw [show ((x.toNat : Nat) : Int) = x by omega] at h1 h2
    omega
/-- Two permutations whose product loses no letter: all letters of the second go into the first. -/
theorem merge {n : Nat} (x y : Pm) (hx : Sup n x) (hy : Sup n y) (h : Red x y) : Mvs n [x, y] [comp x y, pOne] := by
  by_cases hk : ∃ k : Int, 0 < k ∧ k < n ∧ Sta k y
  · obtain ⟨k, k0, k1, sk⟩ := hk
    have hf : ¬ Fi k x := by
      intro hf
      have h2 : y.f (k - 1) < y.f k := h (k - 1) k (by omega) hf
      unfold Sta at sk
      omega
    have hlt := wt_beh hx k0 k1 hf
    have ih := merge (beh x k) (bef k y) (hx.beh k0 k1) (hy.bef k0 k1) (by
      intro u v huv hg
      have hg' : x.g (tr k v) < x.g (tr k u) := hg
      show y.f (tr k u) < y.f (tr k v)
      rcases tr_lt (k := k) huv with h1 | ⟨rfl, rfl⟩
      · exact h _ _ h1 hg'
      · rw [tr_lo, tr_hi]; exact sk)
    have e : comp (beh x k) (bef k y) = comp x y := Pm.ext_ fun i => by
      show y.f (tr k (tr k (x.f i))) = y.f (x.f i)
      rw [tr_tr]
    rw [e] at ih
    exact .head (.here _ _ _ k k0 k1 hf sk) ih
  · have : y = pOne := rises hy fun k k0 k1 hs => hk ⟨k, k0, k1, hs⟩
    subst this
    exact .refl _
termination_by wt n x
theorem one_back {n : Nat} (p : Pm) (hp : Sup n p) : Mvs n [pOne, p] [p, pOne] := by
  have := merge pOne p (Sup.one n) hp fun u v h1 h2 => by have : v < u := h2; omega
  exact this
theorem ones_back {n : Nat} (L : List Pm) (hL : Sups n L) : Mvs n (pOne :: L) (L ++ [pOne]) := by
  induction L with
  | nil => exact .refl _
  | cons p L ih => exact ((one_back p (hL p (by simp))).right L).trans ((ih fun x hx => hL x (by simp [hx])).cons p)
/-! ### The half twist -/
def hf (n x : Int) : Int := if 0 ≤ x ∧ x < n then n - 1 - x else x
theorem hf_hf (n x : Int) : hf n (hf n x) = x := by unfold hf; split <;> (try split) <;> omega
def pHalf (n : Int) : Pm := ⟨hf n, hf n, hf_hf n, hf_hf n⟩
theorem Sup.half (n : Int) : Sup n (pHalf n) := fun x hx => by show hf n x = x; unfold hf; rw [if_neg (by omega)]
theorem hf_in {n x : Int} (h0 : 0 ≤ x) (h1 : x < n) : hf n x = n - 1 - x := by unfold hf; rw [if_pos ⟨h0, h1⟩]
theorem hf_out {n x : Int} (h : x < 0 ∨ n ≤ x) : hf n x = x := by unfold hf; rw [if_neg (by omega)]
theorem fi_half {n k : Int} (h0 : 0 < k) (h1 : k < n) : Fi k (pHalf n) := by
  show hf n k < hf n (k - 1)
  rw [hf_in (by omega) h1, hf_in (by omega) (by omega)]; omega
theorem merge_half {n : Nat} {x y : Pm} (hx : Sup n x) (hy : Sup n y) (h : comp x y = pHalf n) : Mvs n [x, y] [pHalf n, pOne] := by
  rw [← h]
  refine merge x y hx hy fun u v huv hg => ?_
  have key : ∀ u, y.f u = hf n (x.g u) := fun u => by
    have : (comp x y).f (x.g u) = hf n (x.g u) := by rw [h]; rfl
    rw [← this]
    show y.f u = y.f (x.f (x.g u))
    rw [x.fg]
  rw [key, key]
  by_cases hu : u < 0 ∨ (n : Int) ≤ u
  · have e1 := hx.g u hu
    by_cases hv : v < 0 ∨ (n : Int) ≤ v
    · have e2 := hx.g v hv; omega
    · have := hx.rgg (x := v) (by omega) (by omega); omega
  · have a := hx.rgg (x := u) (by omega) (by omega)
    by_cases hv : v < 0 ∨ (n : Int) ≤ v
    · have e2 := hx.g v hv; omega
    · have b := hx.rgg (x := v) (by omega) (by omega)
      rw [hf_in a.1 a.2, hf_in b.1 b.2]; omega
/-- A permutation seen from behind. -/
def pFlip (n : Int) (p : Pm) : Pm := ⟨fun i => hf n (p.f (hf n i)), fun v => hf n (p.g (hf n v)), fun v => by simp only [hf_hf, p.fg], fun i => by simp only [hf_hf, p.gf]⟩
theorem Sup.flip {n : Int} {p : Pm} (h : Sup n p) : Sup n (pFlip n p) := fun x hx => by
  show hf n (p.f (hf n x)) = x
  rw [hf_out hx, h x hx, hf_out hx]
theorem flip_flip (n : Int) (p : Pm) : pFlip n (pFlip n p) = p := Pm.ext_ fun x => by
  show hf n (hf n (p.f (hf n (hf n x)))) = _
  rw [hf_hf, hf_hf]
theorem hf_tr {n k : Int} (h0 : 0 < k) (h1 : k < n) (x : Int) : hf n (tr k x) = tr (n - k) (hf n x) := by
  by_cases a : x = k - 1
  · subst a
    rw [tr_lo, hf_in (by omega) h1, hf_in (by omega) (by omega), show n - 1 - (k - 1) = n - k by omega, tr_hi]; omega
  · by_cases b : x = k
    · subst b
      rw [tr_hi, hf_in (by omega) (by omega), hf_in (by omega) h1, show n - 1 - x = n - x - 1 by omega, tr_lo]; omega
    · rw [tr_no a b]
      by_cases c : x < 0 ∨ n ≤ x
      · rw [hf_out c, tr_no (by omega) (by omega)]
      · rw [hf_in (by omega) (by omega), tr_no (by omega) (by omega)]
theorem flip_beh {n k : Int} (h0 : 0 < k) (h1 : k < n) (p : Pm) : pFlip n (beh p k) = beh (pFlip n p) (n - k) := Pm.ext_ fun _ => hf_tr h0 h1 _
theorem flip_bef {n k : Int} (h0 : 0 < k) (h1 : k < n) (p : Pm) : pFlip n (bef k p) = bef (n - k) (pFlip n p) := Pm.ext_ fun x => by
  show hf n (p.f (tr k (hf n x))) = hf n (p.f (hf n (tr (n - k) x)))
  rw [hf_tr (k := n - k) (by omega) (by omega), show n - (n - k) = k by omega]
theorem flip_mv {n : Int} {a b : List Pm} (h : Mv n a b) (hs : Sups n a) : Mv n (a.map (pFlip n)) (b.map (pFlip n)) := by
  induction h with
  | here p q r k h0 h1 h2 h3 =>
    have hp := hs p (by simp)
    have hq := hs q (by simp)
    simp only [List.map_cons]
    rw [flip_beh h0 h1, flip_bef h0 h1]
    refine .here _ _ _ (n - k) (by omega) (by omega) ?_ ?_
    · show ¬ hf n (p.g (hf n (n - k))) < hf n (p.g (hf n (n - k - 1)))
      rw [hf_in (n := n) (x := n - k) (by omega) (by omega), hf_in (n := n) (x := n - k - 1) (by omega) (by omega), show n - 1 - (n - k) = k - 1 by omega, show n - 1 - (n - k - 1) = k by omega]
      have a := hp.rgg (x := k - 1) (by omega) (by omega)
      have b := hp.rgg (x := k) (by omega) (by omega)
      have := not_fi h2
      rw [hf_in a.1 a.2, hf_in b.1 b.2]; omega
    · show hf n (q.f (hf n (n - k))) < hf n (q.f (hf n (n - k - 1)))
      rw [hf_in (n := n) (x := n - k) (by omega) (by omega), hf_in (n := n) (x := n - k - 1) (by omega) (by omega), show n - 1 - (n - k) = k - 1 by omega, show n - 1 - (n - k - 1) = k by omega]
      have a := hq.rg (x := k - 1) (by omega) (by omega)
      have b := hq.rg (x := k) (by omega) (by omega)
      unfold Sta at h3
      rw [hf_in a.1 a.2, hf_in b.1 b.2]; omega
  | cons p _ ih => exact .cons _ (ih fun x hx => hs x (by simp [hx]))
theorem flip_mvs {n : Int} {a b : List Pm} (h : Mvs n a b) (hs : Sups n a) : Mvs n (a.map (pFlip n)) (b.map (pFlip n)) := by
  induction h with
  | refl a => exact .refl _
  | head h _ ih => exact .head (flip_mv h hs) (ih (h.sups hs))
theorem flip_jn {n : Int} {a b : List Pm} (h : Jn n a b) (ha : Sups n a) (hb : Sups n b) : Jn n (a.map (pFlip n)) (b.map (pFlip n)) :=
  h.elim fun _ h => ⟨_, flip_mvs h.1 ha, flip_mvs h.2 hb⟩
theorem flip_one (n : Int) : pFlip n pOne = pOne := Pm.ext_ fun x => hf_hf n x
theorem flip_half (n : Int) : pFlip n (pHalf n) = pHalf n := Pm.ext_ fun x => by show hf n (hf n (hf n x)) = hf n x; rw [hf_hf]
theorem Sups.flip {n : Int} {L : List Pm} (h : Sups n L) : Sups n (L.map (pFlip n)) := fun x hx => by
  obtain ⟨p, hp, rfl⟩ := List.mem_map.1 hx
  exact (h p hp).flip
theorem Sups.append {n : Int} {a b : List Pm} (h : Sups n a) (k : Sups n b) : Sups n (a ++ b) := fun x hx => (List.mem_append.1 hx).elim (h x) (k x)
theorem Sups.cons {n : Int} {p : Pm} {b : List Pm} (h : Sup n p) (k : Sups n b) : Sups n (p :: b) := fun x hx => by
  rcases List.mem_cons.1 hx with rfl | hx
  · exact h
  · exact k x hx
theorem sups_nil (n : Int) : Sups n [] := fun x hx => absurd hx (by simp)
/-! ### What can be cut away -/
theorem irr_half {n : Int} {a : List Pm} (h : Irr n a) : Irr n (pHalf n :: a) := by
  intro b hb
  cases hb with
  | here _ q r k h0 h1 h2 h3 => exact h2 (fi_half h0 h1)
  | cons _ hb => exact h _ hb
theorem irr_one {n : Int} {a : List Pm} (h : Irr n a) : Irr n (a ++ [pOne]) := by
  induction a with
  | nil => intro b hb; cases hb with | cons _ hb => cases hb
  | cons p a ih =>
    intro b hb
    have ha : Irr n a := fun c hc => h _ (.cons p hc)
    cases a with
    | nil =>
      cases hb with
      | here _ _ _ k h0 h1 h2 h3 => have : k < k - 1 := h3; omega
      | cons _ hb => exact ih ha _ hb
    | cons q a =>
      cases hb with
      | here _ _ _ k h0 h1 h2 h3 => exact h _ (.here p q a k h0 h1 h2 h3)
      | cons _ hb => exact ih ha _ hb
theorem jn_cut_half {n : Nat} {a b : List Pm} (ha : Sups n a) (hb : Sups n b) (h : Jn n (pHalf n :: a) (pHalf n :: b)) : Jn n a b := by
  obtain ⟨a', a1, a2⟩ := irr_ex n a ha
  obtain ⟨b', b1, b2⟩ := irr_ex n b hb
  have s1 : Sups n (pHalf n :: a) := ha.cons (Sup.half n)
  have s2 : Sups n (pHalf n :: b) := hb.cons (Sup.half n)
  have h1 : Jn n (pHalf n :: a') (pHalf n :: b') := (((Jn.of (a1.cons (pHalf n))).symm).trans h s1).trans (Jn.of (b1.cons (pHalf n))) s2
  have h2 := h1.irr (irr_half a2) (irr_half b2)
  injection h2 with _ h2
  subst h2
  exact ⟨a', a1, b1⟩
theorem jn_cut_one {n : Nat} {a b : List Pm} (ha : Sups n a) (hb : Sups n b) (h : Jn n (a ++ [pOne]) (b ++ [pOne])) : Jn n a b := by
  obtain ⟨a', a1, a2⟩ := irr_ex n a ha
  obtain ⟨b', b1, b2⟩ := irr_ex n b hb
  have so : Sups n [pOne] := (sups_nil n).cons (Sup.one n)
  have h1 : Jn n (a' ++ [pOne]) (b' ++ [pOne]) := (((Jn.of (a1.right [pOne])).symm).trans h (ha.append so)).trans (Jn.of (b1.right [pOne])) (hb.append so)
  have h2 := h1.irr (irr_one a2) (irr_one b2)
  have h3 := List.append_cancel_right h2
  subst h3
  exact ⟨a', a1, b1⟩
/-- The half twist goes through all, which it turns. -/
theorem half_through1 {n : Nat} (p : Pm) (hp : Sup n p) : Jn n [pFlip n p, pHalf n] [pHalf n, p] := by
  obtain ⟨c, hc⟩ : ∃ c : Pm, c = ⟨fun i => hf n ((pFlip n p).g i), fun v => (pFlip n p).f (hf n v), fun v => by simp only [(pFlip n p).gf, hf_hf], fun i => by simp only [hf_hf, (pFlip n p).fg]⟩ := ⟨_, rfl⟩
  have sc : Sup n c := by
    subst hc
    intro x hx
    show hf n ((pFlip n p).g x) = x
    rw [hp.flip.g x hx, hf_out hx]
  have e1 : comp (pFlip n p) c = pHalf n := by
    subst hc
    exact Pm.ext_ fun i => by show hf n ((pFlip n p).g ((pFlip n p).f i)) = hf n i; rw [(pFlip n p).gf]
  have e2 : comp c p = pHalf n := by
    subst hc
    exact Pm.ext_ fun i => by
      show p.f (hf n (hf n (p.g (hf n i)))) = hf n i
      rw [hf_hf, p.fg]
  have m1 : Mvs n [pFlip n p, c, p] [pFlip n p, pHalf n, pOne] := (merge_half sc hp e2).cons _
  have m2 : Mvs n [pFlip n p, c, p] [pHalf n, p, pOne] := ((merge_half hp.flip sc e1).right [p]).trans ((one_back p hp).cons _)
  have s0 : Sups n [pFlip n p, c, p] := (((sups_nil n).cons hp).cons sc).cons hp.flip
  have h := (Jn.of m1).symm.trans (Jn.of m2) s0
  exact jn_cut_one (a := [pFlip n p, pHalf n]) (b := [pHalf n, p]) (((sups_nil n).cons (Sup.half n)).cons hp.flip) (((sups_nil n).cons hp).cons (Sup.half n)) h
theorem half_through {n : Nat} (L : List Pm) (hL : Sups n L) : Jn n (L.map (pFlip n) ++ [pHalf n]) (pHalf n :: L) := by
  induction L with
  | nil => exact Jn.refl _
  | cons p L ih =>
    have hp := hL p (by simp)
    have hL' : Sups n L := fun x hx => hL x (by simp [hx])
    have h1 : Jn n (pFlip n p :: (L.map (pFlip n) ++ [pHalf n])) (pFlip n p :: pHalf n :: L) := (ih hL').left [pFlip n p]
    have h2 : Jn n (pFlip n p :: pHalf n :: L) (pHalf n :: p :: L) := (half_through1 p hp).right L
    exact h1.trans h2 ((hL'.cons (Sup.half n)).cons hp.flip)
/-! ### The list of a word -/
def sig (k : Int) : Pm := beh pOne k
def step (n : Int) (s : Nat × List Pm) (x : Int) : Nat × List Pm :=
  if 0 < x ∧ x < n then (s.1, s.2 ++ [sig x]) else if x < 0 ∧ -n < x then (s.1 + 1, s.2.map (pFlip n) ++ [beh (pHalf n) (-x)]) else s
def run (n : Int) (s : Nat × List Pm) (w : List Int) : Nat × List Pm := w.foldl (step n) s
theorem run_append (n : Int) (s : Nat × List Pm) (a b : List Int) : run n s (a ++ b) = run n (run n s a) b := by simp [run]
theorem step_sups {n : Int} {s : Nat × List Pm} (h : Sups n s.2) (x : Int) : Sups n (step n s x).2 := by
  unfold step
  split
  · rename_i hx; exact h.append ((sups_nil n).cons ((Sup.one n).beh hx.1 hx.2))
  · split
    · rename_i hx; exact h.flip.append ((sups_nil n).cons ((Sup.half n).beh (by omega) (by omega)))
    · exact h
theorem run_sups {n : Int} {s : Nat × List Pm} (h : Sups n s.2) (w : List Int) : Sups n (run n s w).2 := by
  induction w generalizing s with
  | nil => exact h
  | cons x w ih => exact ih (step_sups h x)
/-- A list turned t times. -/
def flips (n : Int) : Nat → List Pm → List Pm
  | 0, L => L
  | t + 1, L => flips n t (L.map (pFlip n))
theorem flips_snoc (n : Int) (t : Nat) (L : List Pm) : flips n (t + 1) L = (flips n t L).map (pFlip n) := by
  induction t generalizing L with
  | zero => rfl
  | succ t ih => exact ih _
theorem flips_append (n : Int) (t : Nat) (a b : List Pm) : flips n t (a ++ b) = flips n t a ++ flips n t b := by
  induction t generalizing a b with
  | zero => rfl
  | succ t ih => simp [flips, ih]
theorem flips_sups {n : Int} (t : Nat) {L : List Pm} (h : Sups n L) : Sups n (flips n t L) := by
  induction t generalizing L with
  | zero => exact h
  | succ t ih => exact ih h.flip
theorem flips_jn {n : Int} (t : Nat) {a b : List Pm} (h : Jn n a b) (ha : Sups n a) (hb : Sups n b) : Jn n (flips n t a) (flips n t b) := by
  induction t generalizing a b with
  | zero => exact h
  | succ t ih => exact ih (flip_jn h ha hb) ha.flip hb.flip
theorem flips_rep {n : Int} {p : Pm} (h : pFlip n p = p) (t m : Nat) : flips n t (List.replicate m p) = List.replicate m p := by
  induction t with
  | zero => rfl
  | succ t ih => rw [flips, List.map_replicate, h, ih]
theorem run_shape (n : Int) (w : List Int) : ∃ t R, Sups n R ∧ ∀ m L, run n (m, L) w = (m + t, flips n t L ++ R) := by
  rcases nil_or_snoc w with rfl | ⟨l, x, rfl⟩
  · exact ⟨0, [], sups_nil n, fun m L => by simp [run, flips]⟩
  · have hlt : l.length < (l ++ [x]).length := by simp
    obtain ⟨t, R, hR, h⟩ := run_shape n l
    by_cases h1 : 0 < x ∧ x < n
    · refine ⟨t, R ++ [sig x], hR.append ((sups_nil n).cons ((Sup.one n).beh h1.1 h1.2)), fun m L => ?_⟩
      rw [run_append, h]
      simp [run, step, h1]
    · by_cases h2 : x < 0 ∧ -n < x
      · refine ⟨t + 1, R.map (pFlip n) ++ [beh (pHalf n) (-x)], hR.flip.append ((sups_nil n).cons ((Sup.half n).beh (by omega) (by omega))), fun m L => ?_⟩
        rw [run_append, h]
        simp [run, step, h1, h2, flips_snoc, Nat.add_assoc]
      · refine ⟨t, R, hR, fun m L => ?_⟩
        rw [run_append, h]
        simp [run, step, h1, h2]
termination_by w.length
/-- Lists with half twists taken away that are equal. -/
def Eqv (n : Int) (s s' : Nat × List Pm) : Prop :=
  ∃ r r', Jn n (List.replicate s'.1 (pHalf n) ++ s.2 ++ List.replicate r pOne) (List.replicate s.1 (pHalf n) ++ s'.2 ++ List.replicate r' pOne)
theorem sups_rep {n : Int} {p : Pm} (h : Sup n p) (m : Nat) : Sups n (List.replicate m p) := fun x hx => by rw [List.eq_of_mem_replicate hx]; exact h
theorem sups_pad {n : Int} {L : List Pm} (h : Sups n L) (m r : Nat) : Sups n (List.replicate m (pHalf n) ++ L ++ List.replicate r pOne) :=
  ((sups_rep (Sup.half n) m).append h).append (sups_rep (Sup.one n) r)
theorem Eqv.refl {n : Int} (s : Nat × List Pm) : Eqv n s s := ⟨0, 0, Jn.refl _⟩
theorem Eqv.symm {n : Int} {s s' : Nat × List Pm} (h : Eqv n s s') : Eqv n s' s := by obtain ⟨r, r', h⟩ := h; exact ⟨r', r, h.symm⟩
theorem jn_cut_halfs {n : Nat} (m : Nat) {a b : List Pm} (ha : Sups n a) (hb : Sups n b) (h : Jn n (List.replicate m (pHalf n) ++ a) (List.replicate m (pHalf n) ++ b)) : Jn n a b := by
  induction m with
  | zero => exact h
  | succ m ih => exact ih (jn_cut_half ((sups_rep (Sup.half n) m).append ha) ((sups_rep (Sup.half n) m).append hb) h)
theorem Eqv.trans {n : Nat} {s s' s2 : Nat × List Pm} (hs : Sups n s.2) (hs' : Sups n s'.2) (hs2 : Sups n s2.2) (h : Eqv n s s') (k : Eqv n s' s2) : Eqv n s s2 := by
  obtain ⟨r, r', h⟩ := h
  obtain ⟨q, q', k⟩ := k
  have h1 := ((h.left (List.replicate s2.1 (pHalf n))).right (List.replicate q pOne))
  have k1 := ((k.left (List.replicate s.1 (pHalf n))).right (List.replicate r' pOne))
  have e1 : List.replicate s2.1 (pHalf n) ++ (List.replicate s'.1 (pHalf n) ++ s.2 ++ List.replicate r pOne) ++ List.replicate q pOne = List.replicate s'.1 (pHalf n) ++ (List.replicate s2.1 (pHalf n) ++ s.2 ++ List.replicate (r + q) pOne) := by
    simp only [← List.append_assoc, List.replicate_append_replicate, Nat.add_comm]
    simp only [List.append_assoc, List.replicate_append_replicate]
  have e2 : List.replicate s2.1 (pHalf n) ++ (List.replicate s.1 (pHalf n) ++ s'.2 ++ List.replicate r' pOne) ++ List.replicate q pOne = List.replicate (s.1 + s2.1) (pHalf n) ++ s'.2 ++ List.replicate (r' + q) pOne := by
    simp only [← List.append_assoc, List.replicate_append_replicate, Nat.add_comm]
    simp only [List.append_assoc, List.replicate_append_replicate]
  have e3 : List.replicate s.1 (pHalf n) ++ (List.replicate s2.1 (pHalf n) ++ s'.2 ++ List.replicate q pOne) ++ List.replicate r' pOne = List.replicate (s.1 + s2.1) (pHalf n) ++ s'.2 ++ List.replicate (r' + q) pOne := by
    simp only [← List.append_assoc, List.replicate_append_replicate]
    simp only [List.append_assoc, List.replicate_append_replicate, Nat.add_comm]
  have e4 : List.replicate s.1 (pHalf n) ++ (List.replicate s'.1 (pHalf n) ++ s2.2 ++ List.replicate q' pOne) ++ List.replicate r' pOne = List.replicate s'.1 (pHalf n) ++ (List.replicate s.1 (pHalf n) ++ s2.2 ++ List.replicate (q' + r') pOne) := by
    simp only [← List.append_assoc, List.replicate_append_replicate]
    simp only [List.append_assoc, List.replicate_append_replicate, Nat.add_comm]
  rw [e1, e2] at h1
  rw [e3, e4] at k1
  exact ⟨r + q, q' + r', jn_cut_halfs s'.1 (sups_pad hs _ _) (sups_pad hs2 _ _) (h1.trans k1 (sups_pad hs' _ _))⟩
theorem ones_through {n : Nat} (r : Nat) (L : List Pm) (hL : Sups n L) : Jn n (List.replicate r pOne ++ L) (L ++ List.replicate r pOne) := by
  induction r with
  | zero => simp; exact Jn.refl _
  | succ r ih =>
    have h1 : Jn n (pOne :: (List.replicate r pOne ++ L)) (pOne :: (L ++ List.replicate r pOne)) := ih.left [pOne]
    have h2 : Jn n (pOne :: (L ++ List.replicate r pOne)) ((L ++ [pOne]) ++ List.replicate r pOne) := (Jn.of (ones_back L hL)).right (List.replicate r pOne)
    have := h1.trans h2 ((hL.append (sups_rep (Sup.one n) r)).cons (Sup.one n))
    simpa [List.replicate_succ] using this
theorem Eqv.run {n : Nat} {s s' : Nat × List Pm} (hs : Sups n s.2) (hs' : Sups n s'.2) (h : Eqv n s s') (w : List Int) : Eqv n (run n s w) (run n s' w) := by
  obtain ⟨t, R, hR, hw⟩ := run_shape n w
  obtain ⟨m, L⟩ := s
  obtain ⟨m', L'⟩ := s'
  obtain ⟨r, r', h⟩ := h
  rw [hw, hw]
  have h1 := flips_jn t h (sups_pad hs _ _) (sups_pad hs' _ _)
  simp only [flips_append, flips_rep (flip_half n), flips_rep (flip_one n)] at h1
  have h2 := (h1.right R).left (List.replicate t (pHalf n))
  have f1 := flips_sups t hs
  have f2 := flips_sups t hs'
  have k1 : Jn n (List.replicate (m' + t) (pHalf n) ++ (flips n t L ++ R) ++ List.replicate r pOne) (List.replicate t (pHalf n) ++ (List.replicate m' (pHalf n) ++ flips n t L ++ List.replicate r pOne ++ R)) := by
    have := ((ones_through r R hR).left (List.replicate (m' + t) (pHalf n) ++ flips n t L)).symm
    simpa [← List.append_assoc, List.replicate_append_replicate, Nat.add_comm] using this
  have k2 : Jn n (List.replicate t (pHalf n) ++ (List.replicate m (pHalf n) ++ flips n t L' ++ List.replicate r' pOne ++ R)) (List.replicate (m + t) (pHalf n) ++ (flips n t L' ++ R) ++ List.replicate r' pOne) := by
    have := ((ones_through r' R hR).left (List.replicate (m + t) (pHalf n) ++ flips n t L'))
    simpa [← List.append_assoc, List.replicate_append_replicate, Nat.add_comm] using this
  have g1 := (sups_rep (Sup.half n) t).append ((sups_pad f1 m' r).append hR)
  have g2 := (sups_rep (Sup.half n) t).append ((sups_pad f2 m r').append hR)
  exact ⟨r, r', (k1.trans h2 g1).trans k2 g2⟩
/-! ### The relations -/
theorem sig_sup {n k : Int} (h0 : 0 < k) (h1 : k < n) : Sup n (sig k) := (Sup.one n).beh h0 h1
theorem eqv_tail {n : Nat} {s : Nat × List Pm} {a b : List Pm} (h : Jn n a b) : Eqv n (s.1, s.2 ++ a) (s.1, s.2 ++ b) := by
  refine ⟨0, 0, ?_⟩
  have := (h.left (List.replicate s.1 (pHalf n) ++ s.2))
  simpa using this
theorem run_two_pos {n : Int} {s : Nat × List Pm} {i j : Int} (hi : 0 < i ∧ i < n) (hj : 0 < j ∧ j < n) : run n s [i, j] = (s.1, s.2 ++ [sig i, sig j]) := by simp [run, step, hi, hj]
theorem run_three_pos {n : Int} {s : Nat × List Pm} {i j : Int} (hi : 0 < i ∧ i < n) (hj : 0 < j ∧ j < n) : run n s [i, j, i] = (s.1, s.2 ++ [sig i, sig j, sig i]) := by simp [run, step, hi, hj]
theorem red_sig {i j : Int} (h : i ≠ j) : Red (sig i) (sig j) := by
  intro u v huv hg
  have hg' : tr i v < tr i u := hg
  show tr j u < tr j v
  rcases tr_lt (k := i) huv with h1 | ⟨h1, h2⟩
  · omega
  · rcases tr_lt (k := j) huv with h3 | ⟨h3, h4⟩
    · exact h3
    · omega
theorem rel_comm {n : Nat} {i j : Int} (hi : 0 < i) (hij : i + 2 ≤ j) (hj : j < n) : Jn n [sig i, sig j] [sig j, sig i] := by
  have m1 := merge (sig i) (sig j) (sig_sup hi (by omega)) (sig_sup (by omega) hj) (red_sig (by omega))
  have m2 := merge (sig j) (sig i) (sig_sup (by omega) hj) (sig_sup hi (by omega)) (red_sig (by omega))
  have e : comp (sig i) (sig j) = comp (sig j) (sig i) := Pm.ext_ fun x => tr_far (.inr hij) x
  rw [← e] at m2
  exact ⟨_, m1, m2⟩
theorem red_sig3 {i j : Int} (h : j = i + 1 ∨ i = j + 1) : Red (comp (sig i) (sig j)) (sig i) := by
  intro u v huv hg
  have hg' : tr i (tr j v) < tr i (tr j u) := hg
  show tr i u < tr i v
  rcases tr_lt (k := i) huv with h1 | ⟨h1, h2⟩
  · exact h1
  · exfalso
    subst h1 h2
    rcases h with rfl | rfl
    · rw [show tr (v + 1) v = v + 1 by unfold tr; rw [if_pos (by omega)], tr_no (k := v + 1) (x := v - 1) (by omega) (by omega), tr_lo, tr_no (k := v) (x := v + 1) (by omega) (by omega)] at hg'
      omega
    · rw [tr_no (k := j) (x := j + 1) (by omega) (by omega), show j + 1 - 1 = j by omega, tr_hi, tr_hi, tr_no (k := j + 1) (x := j - 1) (by omega) (by omega)] at hg'
      omega
theorem rel_three {n : Nat} {i j : Int} (h : j = i + 1 ∨ i = j + 1) (hi : 0 < i ∧ i < n) (hj : 0 < j ∧ j < n) : Mvs n [sig i, sig j, sig i] [comp (comp (sig i) (sig j)) (sig i), pOne, pOne] := by
  have si := sig_sup hi.1 hi.2
  have sj := sig_sup hj.1 hj.2
  have m1 := (merge (sig i) (sig j) si sj (red_sig (by omega))).right [sig i]
  have m2 := (one_back (sig i) si).cons (comp (sig i) (sig j))
  have m3 := (merge (comp (sig i) (sig j)) (sig i) (si.comp sj) si (red_sig3 h)).right [pOne]
  exact (m1.trans m2).trans m3
theorem rel_braid {n : Nat} {i : Int} (hi : 0 < i) (hj : i + 1 < n) : Jn n [sig i, sig (i + 1), sig i] [sig (i + 1), sig i, sig (i + 1)] := by
  have m1 := rel_three (n := n) (i := i) (j := i + 1) (.inl rfl) ⟨hi, by omega⟩ ⟨by omega, hj⟩
  have m2 := rel_three (n := n) (i := i + 1) (j := i) (.inr rfl) ⟨by omega, hj⟩ ⟨hi, by omega⟩
  have e : comp (comp (sig i) (sig (i + 1))) (sig i) = comp (comp (sig (i + 1)) (sig i)) (sig (i + 1)) := Pm.ext_ fun x => tr_three i x
  rw [← e] at m2
  exact ⟨_, m1, m2⟩
/-- A letter and its inverse: a half twist that was taken away and put back. -/
theorem rel_can {n : Nat} {s : Nat × List Pm} (hs : Sups n s.2) {a b : Pm} (ha : Sup n a) (hb : Sup n b) (h : comp a b = pHalf n) : Eqv n (s.1 + 1, s.2.map (pFlip n) ++ [a, b]) s := by
  refine ⟨0, 1, ?_⟩
  have m1 : Jn n (s.2.map (pFlip n) ++ [a, b]) (s.2.map (pFlip n) ++ [pHalf n] ++ [pOne]) := by
    have := (Jn.of (merge_half ha hb h)).left (s.2.map (pFlip n))
    simpa using this
  have m2 : Jn n (s.2.map (pFlip n) ++ [pHalf n] ++ [pOne]) (pHalf n :: s.2 ++ [pOne]) := (half_through s.2 hs).right [pOne]
  have m3 := m1.trans m2 ((hs.flip.append ((sups_nil n).cons (Sup.half n))).append ((sups_nil n).cons (Sup.one n)))
  have := m3.left (List.replicate s.1 (pHalf n))
  have e : List.replicate s.1 (pHalf n) ++ (pHalf n :: s.2 ++ [pOne]) = List.replicate (s.1 + 1) (pHalf n) ++ s.2 ++ List.replicate 1 pOne := by
    rw [← List.replicate_append_replicate]; simp
  rw [e] at this
  simpa using this
theorem eqv_can {n : Nat} {s : Nat × List Pm} (hs : Sups n s.2) (x : Int) : Eqv n (run n s [x, -x]) s := by
  by_cases h1 : 0 < x ∧ x < n
  · have e : run n s [x, -x] = (s.1 + 1, s.2.map (pFlip n) ++ [pFlip n (sig x), beh (pHalf n) x]) := by
      simp only [run, List.foldl_cons, List.foldl_nil]
      have e1 : step n s x = (s.1, s.2 ++ [sig x]) := by unfold step; rw [if_pos h1]
      rw [e1]
      unfold step
      rw [if_neg (by omega), if_pos (by omega), Int.neg_neg]
      simp
    rw [e]
    refine rel_can hs (sig_sup h1.1 h1.2).flip ((Sup.half n).beh h1.1 h1.2) (Pm.ext_ fun i => ?_)
    show tr x (hf n (hf n (tr x (hf n i)))) = hf n i
    rw [hf_hf, tr_tr]
  · by_cases h2 : x < 0 ∧ -(n : Int) < x
    · have e : run n s [x, -x] = (s.1 + 1, s.2.map (pFlip n) ++ [beh (pHalf n) (-x), sig (-x)]) := by
        simp only [run, List.foldl_cons, List.foldl_nil]
        have e1 : step n s x = (s.1 + 1, s.2.map (pFlip n) ++ [beh (pHalf n) (-x)]) := by unfold step; rw [if_neg h1, if_pos h2]
        rw [e1]
        unfold step
        rw [if_pos (by omega)]
        simp
      rw [e]
      refine rel_can hs ((Sup.half n).beh (by omega) (by omega)) (sig_sup (by omega) (by omega)) (Pm.ext_ fun i => ?_)
      show tr (-x) (tr (-x) (hf n i)) = hf n i
      rw [tr_tr]
    · have e : run n s [x, -x] = s := by
        simp only [run, List.foldl_cons, List.foldl_nil]
        have e1 : step n s x = s := by unfold step; rw [if_neg h1, if_neg h2]
        rw [e1]
        unfold step
        rw [if_neg (by omega), if_neg (by omega)]
      rw [e]
      exact Eqv.refl s
/-- Equal words have equal lists. -/
theorem eqv_gen {n : Nat} {a b : List Int} (h : Gen (BrR n) a b) : ∀ s : Nat × List Pm, Sups n s.2 → Eqv n (run n s a) (run n s b) := by
  induction h with
  | refl a => intro s _; exact Eqv.refl _
  | symm _ ih => intro s hs; exact (ih s hs).symm
  | trans _ _ i1 i2 => intro s hs; exact (i1 s hs).trans (run_sups hs _) (run_sups hs _) (run_sups hs _) (i2 s hs)
  | @cong a b c d _ _ i1 i2 =>
    intro s hs
    rw [run_append, run_append]
    exact ((i1 s hs).run (run_sups hs a) (run_sups hs b) c).trans (run_sups (run_sups hs a) c) (run_sups (run_sups hs b) c) (run_sups (run_sups hs b) d) (i2 _ (run_sups hs b))
  | can x => intro s hs; exact eqv_can hs x
  | base h =>
    intro s hs
    cases h with
    | comm i j h1 h2 h3 => rw [run_two_pos (by omega) (by omega), run_two_pos (by omega) (by omega)]; exact eqv_tail (rel_comm h1 h2 h3)
    | braid i h1 h2 => rw [run_three_pos (by omega) (by omega), run_three_pos (by omega) (by omega)]; exact eqv_tail (rel_braid h1 h2)
/-- The list of a word, and when it is that of the trivial braid. -/
def lst (n : Int) (w : List Int) : Nat × List Pm := run n (0, []) w
theorem lst_sups (n : Int) (w : List Int) : Sups n (lst n w).2 := run_sups (sups_nil n) w
theorem one_ne_half {n : Int} (h : 2 ≤ n) : pOne ≠ pHalf n := fun e => by
  have : pOne.f 0 = (pHalf n).f 0 := by rw [← e]
  have h2 : (0 : Int) = hf n 0 := this
  rw [hf_in (by omega) (by omega)] at h2
  omega
theorem irr_reps (n : Int) (m r : Nat) : Irr n (List.replicate m (pHalf n) ++ List.replicate r pOne) := by
  induction m with
  | succ m ih => rw [List.replicate_succ, List.cons_append]; exact irr_half ih
  | zero =>
    rw [List.replicate_zero, List.nil_append]
    induction r with
    | zero => intro b hb; cases hb
    | succ r ih =>
      have := irr_one ih
      rwa [show List.replicate r pOne ++ [pOne] = List.replicate (r + 1) pOne by rw [List.replicate_succ']] at this
theorem jn_cut_ones {n : Nat} (r : Nat) {a b : List Pm} (ha : Sups n a) (hb : Sups n b) (h : Jn n (a ++ List.replicate r pOne) (b ++ List.replicate r pOne)) : Jn n a b := by
  induction r with
  | zero => simpa using h
  | succ r ih =>
    refine ih (jn_cut_one (ha.append (sups_rep (Sup.one n) r)) (hb.append (sups_rep (Sup.one n) r)) ?_)
    rw [List.replicate_succ', ← List.append_assoc, ← List.append_assoc] at h
    exact h
theorem irr_ones {n : Int} {a : List Pm} (h : Irr n a) (r : Nat) : Irr n (a ++ List.replicate r pOne) := by
  induction r with
  | zero => simpa using h
  | succ r ih => rw [List.replicate_succ', ← List.append_assoc]; exact irr_one ih
/-- What a trivial word comes to: half twists, as many as were taken away, and nothing else. -/
theorem trivial_lst {n : Nat} {w : List Int} (h : Gen (BrR n) w []) {N : List Pm} (hN : Mvs n (lst n w).2 N) (hi : Irr n N) :
    ∃ r r', N ++ List.replicate r pOne = List.replicate (lst n w).1 (pHalf n) ++ List.replicate r' pOne := by
  obtain ⟨r, r', h1⟩ := eqv_gen h (0, []) (sups_nil n)
  refine ⟨r, r', ?_⟩
  have e : run n (0, []) w = lst n w := rfl
  rw [e, show run n (0, []) [] = (0, []) from rfl] at h1
  simp only [List.replicate_zero, List.nil_append, List.append_nil] at h1
  have h2 := ((Jn.of (hN.right (List.replicate r pOne))).symm).trans h1 ((lst_sups n w).append (sups_rep (Sup.one n) r))
  exact h2.irr (irr_ones hi r) (irr_reps n _ r')
end Go.Proofs.Ytcinnbkhnonijaa
/-
  Plain law: the words of permutations and of lists of them; a braid word is trivial exactly if its list comes to half twists, as many as were taken away. No program in sight.
-/
namespace Go.Proofs.Ytcinnbkhnonijaa
set_option maxRecDepth 10000

/-- Shortest words of a permutation. -/
inductive RW (n : Int) : Pm → List Int → Prop
  | nil : RW n pOne []
  | cons (k : Int) {p : Pm} {w : List Int} : 0 < k → k < n → Sta k p → RW n (bef k p) w → RW n p (k :: w)
def wf (n : Nat) (p : Pm) : Nat := (sumW n p.f).toNat
theorem wf_lt {n : Nat} {p : Pm} (h : Sup n p) : wf n p < wtB n ∧ (wf n p : Int) = sumW n p.f := by
  have := sumW_bd p.f n (fun x h0 h1 => by have := h.rg h0 h1; omega) n (Int.le_refl _)
  have h2 : ((n * (n * n) : Nat) : Int) = n * (n * n) := by simp
  unfold wf wtB
  omega
theorem wf_bef {n : Nat} {p : Pm} {k : Int} (h : Sup n p) (h0 : 0 < k) (h1 : k < n) (h2 : Sta k p) : wtB n - wf n (bef k p) < wtB n - wf n p := by
  have e := sumW_swap p.f k h0 n h1
  have a := wf_lt h
  have b := wf_lt (h.bef h0 h1)
  have d : sumW n (bef k p).f = sumW n fun x => p.f (tr k x) := rfl
  unfold Sta at h2
  omega
theorem rw_ex {n : Nat} (p : Pm) (hp : Sup n p) : ∃ w, RW n p w := by
  by_cases hk : ∃ k : Int, 0 < k ∧ k < n ∧ Sta k p
  · obtain ⟨k, k0, k1, sk⟩ := hk
    have hlt := wf_bef hp k0 k1 sk
    obtain ⟨w, hw⟩ := rw_ex (bef k p) (hp.bef k0 k1)
    exact ⟨k :: w, .cons k k0 k1 sk hw⟩
  · have : p = pOne := rises hp fun k k0 k1 hs => hk ⟨k, k0, k1, hs⟩
    subst this
    exact ⟨[], .nil⟩
termination_by wtB n - wf n p
theorem not_sta_bef {k : Int} {p : Pm} (h : Sta k p) : ¬ Sta k (bef k p) := by
  intro h2
  have h3 : p.f (tr k k) < p.f (tr k (k - 1)) := h2
  rw [tr_hi, tr_lo] at h3
  unfold Sta at h
  omega
theorem rw_meet {n : Nat} {p : Pm} (hp : Sup n p) {k l : Int} (k0 : 0 < k) (k1 : k < n) (sk : Sta k p) (l0 : 0 < l) (l1 : l < n) (sl : Sta l p) (hkl : k < l) :
    ∃ u v, RW n (bef k p) u ∧ RW n (bef l p) v ∧ Gen (BrR n) (k :: u) (l :: v) := by
  by_cases h : k + 2 ≤ l
  · obtain ⟨z, hz⟩ := rw_ex (bef l (bef k p)) ((hp.bef k0 k1).bef l0 l1)
    have e2 : bef l (bef k p) = bef k (bef l p) := Pm.ext_ fun x => by show p.f (tr k (tr l x)) = p.f (tr l (tr k x)); rw [tr_far (.inl h)]
    refine ⟨l :: z, k :: z, .cons l l0 l1 ((sta_far (.inl h)).2 sl) hz, .cons k k0 k1 ((sta_far (.inr h)).2 sk) (by rw [← e2]; exact hz), ?_⟩
    exact (Gen.base (BrR.comm k l k0 h l1)).right z
  · obtain rfl : l = k + 1 := by omega
    have sk' : p.f k < p.f (k - 1) := sk
    have sl' : p.f (k + 1) < p.f k := by have : p.f (k + 1) < p.f (k + 1 - 1) := sl; rwa [show k + 1 - 1 = k by omega] at this
    have t1 : tr (k + 1) k = k + 1 := by unfold tr; rw [if_pos (by omega)]
    have t2 : tr (k + 1) (k + 1) = k := by rw [tr_hi]; omega
    have t3 : tr k (k + 1) = k + 1 := tr_no (by omega) (by omega)
    have t4 : tr (k + 1) (k - 1) = k - 1 := tr_no (by omega) (by omega)
    have ee : k + 1 - 1 = k := by omega
    obtain ⟨z, hz⟩ := rw_ex (bef k (bef (k + 1) (bef k p))) (((hp.bef k0 k1).bef l0 l1).bef k0 k1)
    have e2 : bef k (bef (k + 1) (bef k p)) = bef (k + 1) (bef k (bef (k + 1) p)) := Pm.ext_ fun x => by
      show p.f (tr k (tr (k + 1) (tr k x))) = p.f (tr (k + 1) (tr k (tr (k + 1) x)))
      rw [tr_three]
    refine ⟨(k + 1) :: k :: z, k :: (k + 1) :: z, .cons _ l0 l1 ?_ (.cons _ k0 k1 ?_ hz), .cons _ k0 k1 ?_ (.cons _ l0 l1 ?_ (by rw [← e2]; exact hz)), ?_⟩
    · show p.f (tr k (k + 1)) < p.f (tr k (k + 1 - 1))
      rw [ee, t3, tr_hi]; omega
    · show p.f (tr k (tr (k + 1) k)) < p.f (tr k (tr (k + 1) (k - 1)))
      rw [t1, t3, t4, tr_lo]; exact sl'
    · show p.f (tr (k + 1) k) < p.f (tr (k + 1) (k - 1))
      rw [t1, t4]; omega
    · show p.f (tr (k + 1) (tr k (k + 1))) < p.f (tr (k + 1) (tr k (k + 1 - 1)))
      rw [ee, t3, t2, tr_hi, t4]; exact sk'
    · exact (Gen.base (BrR.braid k k0 l1)).right z
/-- Two shortest words of a permutation are equal braids. -/
theorem rw_uniq {n : Nat} (p : Pm) (hp : Sup n p) {w w' : List Int} (h : RW n p w) (h' : RW n p w') : Gen (BrR n) w w' := by
  cases h with
  | nil =>
    cases h' with
    | nil => exact .refl _
    | cons k k0 k1 sk _ => have : k < k - 1 := sk; omega
  | @cons k _ w1 k0 k1 sk h1 =>
    cases h' with
    | nil => have : k < k - 1 := sk; omega
    | @cons l _ w2 l0 l1 sl h2 =>
      have m1 := wf_bef hp k0 k1 sk
      have m2 := wf_bef hp l0 l1 sl
      by_cases e : k = l
      · subst e
        exact (rw_uniq (bef k p) (hp.bef k0 k1) h1 h2).left [k]
      · have key : ∃ u v, RW n (bef k p) u ∧ RW n (bef l p) v ∧ Gen (BrR n) (k :: u) (l :: v) := by
          by_cases hkl : k < l
          · exact rw_meet hp k0 k1 sk l0 l1 sl hkl
          · obtain ⟨u, v, a, b, c⟩ := rw_meet hp l0 l1 sl k0 k1 sk (by omega)
            exact ⟨v, u, b, a, c.symm⟩
        obtain ⟨u, v, hu, hv, hg⟩ := key
        have g1 := (rw_uniq (bef k p) (hp.bef k0 k1) h1 hu).left [k]
        have g2 := (rw_uniq (bef l p) (hp.bef l0 l1) h2 hv).left [l]
        exact (g1.trans hg).trans g2.symm
termination_by wtB n - wf n p
theorem rw_beh {n k : Int} {p : Pm} {w : List Int} (h : RW n p w) (k0 : 0 < k) (k1 : k < n) (hf : ¬ Fi k p) : RW n (beh p k) (w ++ [k]) := by
  induction h with
  | nil =>
    refine .cons k k0 k1 ?_ ?_
    · show tr k k < tr k (k - 1)
      rw [tr_hi, tr_lo]; omega
    · have : bef k (beh pOne k) = pOne := Pm.ext_ fun x => tr_tr k x
      rw [this]; exact .nil
  | cons j j0 j1 sj _ ih => exact .cons j j0 j1 (sta_beh sj hf) (ih (fi_bef sj hf))
theorem rw_pos {n : Int} {p : Pm} {w : List Int} (h : RW n p w) : ∀ x ∈ w, 0 < x ∧ x < n := by
  induction h with
  | nil => intro x hx; cases hx
  | cons k k0 k1 _ _ ih =>
    intro x hx
    rcases List.mem_cons.1 hx with rfl | hx
    · exact ⟨k0, k1⟩
    · exact ih x hx
theorem rw_flip {n : Int} {p : Pm} {w : List Int} (h : RW n p w) (hp : Sup n p) : RW n (pFlip n p) (w.map fun k => n - k) := by
  induction h with
  | nil => rw [flip_one]; exact .nil
  | @cons k q w k0 k1 sk _ ih =>
    have ih := ih (hp.bef k0 k1)
    rw [flip_bef k0 k1] at ih
    refine .cons (n - k) (by omega) (by omega) ?_ ih
    show hf n (q.f (hf n (n - k))) < hf n (q.f (hf n (n - k - 1)))
    rw [hf_in (n := n) (x := n - k) (by omega) (by omega), hf_in (n := n) (x := n - k - 1) (by omega) (by omega), show n - 1 - (n - k) = k - 1 by omega, show n - 1 - (n - k - 1) = k by omega]
    have a := hp.rg (x := k - 1) (by omega) (by omega)
    have b := hp.rg (x := k) (by omega) (by omega)
    unfold Sta at sk
    rw [hf_in a.1 a.2, hf_in b.1 b.2]; omega
/-- Words of a list. -/
inductive SW (n : Int) : List Pm → List Int → Prop
  | nil : SW n [] []
  | cons {p : Pm} {L : List Pm} {a b : List Int} : RW n p a → SW n L b → SW n (p :: L) (a ++ b)
theorem sw_append {n : Int} {L M : List Pm} {a b : List Int} (h : SW n L a) (k : SW n M b) : SW n (L ++ M) (a ++ b) := by
  induction h with
  | nil => exact k
  | cons h _ ih => rw [List.append_assoc]; exact .cons h ih
theorem sw_pos {n : Int} {L : List Pm} {w : List Int} (h : SW n L w) : ∀ x ∈ w, 0 < x ∧ x < n := by
  induction h with
  | nil => intro x hx; cases hx
  | cons h _ ih => intro x hx; exact (List.mem_append.1 hx).elim (rw_pos h x) (ih x)
theorem sw_flip {n : Int} {L : List Pm} {w : List Int} (h : SW n L w) (hs : Sups n L) : SW n (L.map (pFlip n)) (w.map fun k => n - k) := by
  induction h with
  | nil => exact .nil
  | @cons p L a b h _ ih =>
    rw [List.map_append]
    exact .cons (rw_flip h (hs p (by simp))) (ih fun x hx => hs x (by simp [hx]))
theorem sw_mv {n : Nat} {L L' : List Pm} (h : Mv n L L') (hs : Sups n L) {a : List Int} (ha : SW n L a) : ∃ a', SW n L' a' ∧ Gen (BrR n) a a' := by
  induction h generalizing a with
  | here p q r k k0 k1 hk sk =>
    cases ha with
    | @cons _ _ a1 _ h1 h2 =>
      cases h2 with
      | @cons _ _ b1 c h3 h4 =>
        obtain ⟨z, hz⟩ := rw_ex (bef k q) ((hs q (by simp)).bef k0 k1)
        have g := rw_uniq q (hs q (by simp)) h3 (.cons k k0 k1 sk hz)
        refine ⟨(a1 ++ [k]) ++ (z ++ c), .cons (rw_beh h1 k0 k1 hk) (.cons hz h4), ?_⟩
        have := (g.right c).left a1
        simpa using this
  | @cons p L1 L2 h ih =>
    cases ha with
    | @cons _ _ a1 b1 h1 h2 =>
      obtain ⟨b', hb, hg⟩ := ih (fun x hx => hs x (by simp [hx])) h2
      exact ⟨a1 ++ b', .cons h1 hb, hg.left a1⟩
theorem sw_mvs {n : Nat} {L L' : List Pm} (h : Mvs n L L') (hs : Sups n L) {a : List Int} (ha : SW n L a) : ∃ a', SW n L' a' ∧ Gen (BrR n) a a' := by
  induction h generalizing a with
  | refl => exact ⟨a, ha, .refl _⟩
  | head h _ ih =>
    obtain ⟨b, hb, hg⟩ := sw_mv h hs ha
    obtain ⟨c, hc, hg2⟩ := ih (h.sups hs) hb
    exact ⟨c, hc, hg.trans hg2⟩
/-- The half twist and a letter. -/
theorem half_letter {n : Nat} {d : List Int} (hd : RW n (pHalf n) d) {k : Int} (k0 : 0 < k) (k1 : k < n) :
    ∃ z, RW n (beh (pHalf n) k) z ∧ Gen (BrR n) d (z ++ [k]) ∧ Gen (BrR n) (((n : Int) - k) :: d) (d ++ [k]) := by
  obtain ⟨z, hz⟩ := rw_ex (beh (pHalf n) k) ((Sup.half n).beh k0 k1)
  have hs : Sta ((n : Int) - k) (pHalf n) := by
    show hf n (n - k) < hf n (n - k - 1)
    rw [hf_in (by omega) (by omega), hf_in (by omega) (by omega)]; omega
  have e : bef ((n : Int) - k) (pHalf n) = beh (pHalf n) k := Pm.ext_ fun x => by
    show hf n (tr (n - k) x) = tr k (hf n x)
    rw [hf_tr (by omega) (by omega), show (n : Int) - (n - k) = k by omega]
  have h1 : RW n (pHalf n) (((n : Int) - k) :: z) := .cons _ (by omega) (by omega) hs (by rw [e]; exact hz)
  have h2 : RW n (pHalf n) (z ++ [k]) := by
    have := rw_beh hz k0 k1 (by
      show ¬ hf n (tr k k) < hf n (tr k (k - 1))
      rw [tr_hi, tr_lo, hf_in (by omega) (by omega), hf_in (by omega) (by omega)]; omega)
    rwa [show beh (beh (pHalf n) k) k = pHalf n from Pm.ext_ fun x => tr_tr k _] at this
  have g1 := rw_uniq _ (Sup.half n) hd h1
  have g2 := rw_uniq _ (Sup.half n) hd h2
  refine ⟨z, hz, g2, ?_⟩
  have : Gen (BrR n) (((n : Int) - k) :: d) (((n : Int) - k) :: (z ++ [k])) := g2.left [(n : Int) - k]
  exact this.trans (g1.symm.right [k])
theorem half_word {n : Nat} {d : List Int} (hd : RW n (pHalf n) d) (a : List Int) (ha : ∀ x ∈ a, 0 < x ∧ x < (n : Int)) : Gen (BrR n) (a.map (fun k => (n : Int) - k) ++ d) (d ++ a) := by
  induction a with
  | nil => simp; exact .refl _
  | cons k a ih =>
    have hk := ha k (by simp)
    obtain ⟨z, _, _, h3⟩ := half_letter hd hk.1 hk.2
    have h1 := (ih fun x hx => ha x (by simp [hx])).left [(n : Int) - k]
    have h2 := h3.right a
    have := h1.trans (by simpa using h2)
    simpa using this
def dl (d : List Int) (m : Nat) : List Int := (List.replicate m d).flatten
theorem dl_succ (d : List Int) (m : Nat) : dl d (m + 1) = d ++ dl d m := by simp [dl, List.replicate_succ]
/-- A word is its list's word behind half twists that are taken away. -/
theorem word_lst {n : Nat} {d : List Int} (hd : RW n (pHalf n) d) (w : List Int) (hw : In n w) : ∃ a, SW n (lst n w).2 a ∧ Gen (BrR n) (dl d (lst n w).1 ++ w) a := by
  rcases nil_or_snoc w with rfl | ⟨l, x, rfl⟩
  · exact ⟨[], .nil, .refl _⟩
  · have hlt : l.length < (l ++ [x]).length := by simp
    obtain ⟨a, ha, hg⟩ := word_lst hd l fun y hy => hw y (by simp [hy])
    have hx := hw x (by simp)
    have hs := lst_sups n l
    have e : lst n (l ++ [x]) = step n (lst n l) x := by unfold lst; rw [run_append]; rfl
    by_cases h0 : 0 < x
    · have e2 : step n (lst n l) x = ((lst n l).1, (lst n l).2 ++ [sig x]) := by unfold step; rw [if_pos (by omega)]
      rw [e, e2]
      refine ⟨a ++ [x], ?_, ?_⟩
      · have h1 : RW n (sig x) ([] ++ [x]) := rw_beh .nil h0 (by omega) (by intro h; have : x < x - 1 := h; omega)
        have h2 : SW n [sig x] ([x] ++ []) := .cons h1 .nil
        exact sw_append ha h2
      · have := hg.right [x]
        simpa using this
    · have e2 : step n (lst n l) x = ((lst n l).1 + 1, (lst n l).2.map (pFlip n) ++ [beh (pHalf n) (-x)]) := by unfold step; rw [if_neg (by omega), if_pos (by omega)]
      rw [e, e2]
      obtain ⟨z, hz, g1, -⟩ := half_letter hd (k := -x) (by omega) (by omega)
      have h2 : SW n [beh (pHalf n) (-x)] (z ++ []) := .cons hz .nil
      rw [List.append_nil] at h2
      refine ⟨a.map (fun k => (n : Int) - k) ++ z, sw_append (sw_flip ha hs) h2, ?_⟩
      -- d dl w x  ~  d a x  ~  a' d x  ~  a' z (-x) x
      have s1 : Gen (BrR n) (dl d ((lst n l).1 + 1) ++ (l ++ [x])) (d ++ a ++ [x]) := by
        rw [dl_succ]
        have := (hg.left d).right [x]
        simpa using this
      have s2 : Gen (BrR n) (d ++ a ++ [x]) (a.map (fun k => (n : Int) - k) ++ d ++ [x]) := (half_word hd a (sw_pos ha)).symm.right [x]
      have s3 : Gen (BrR n) (a.map (fun k => (n : Int) - k) ++ d ++ [x]) (a.map (fun k => (n : Int) - k) ++ (z ++ [-x]) ++ [x]) := (g1.left _).right [x]
      have s4 : Gen (BrR n) (a.map (fun k => (n : Int) - k) ++ (z ++ [-x]) ++ [x]) (a.map (fun k => (n : Int) - k) ++ z) := by
        have h5 : Gen (BrR n) [-x, x] [] := by
          have := Gen.can (B := BrR n) (-x)
          rwa [Int.neg_neg] at this
        have := h5.left (a.map (fun k => (n : Int) - k) ++ z)
        simpa using this
      exact ((s1.trans s2).trans s3).trans s4
termination_by w.length
open Classical in
/-- How many are not the identity. -/
noncomputable def cntN : List Pm → Nat
  | [] => 0
  | p :: N => (if p = pOne then 0 else 1) + cntN N
theorem cntN_append (a b : List Pm) : cntN (a ++ b) = cntN a + cntN b := by
  induction a with
  | nil => simp [cntN]
  | cons p a ih => simp only [List.cons_append, cntN, ih, Nat.add_assoc]
theorem cntN_ones (r : Nat) : cntN (List.replicate r pOne) = 0 := by
  induction r with
  | zero => rfl
  | succ r ih => rw [List.replicate_succ, cntN, ih, if_pos rfl]
theorem cntN_halfs {n : Int} (h : 2 ≤ n) (m : Nat) : cntN (List.replicate m (pHalf n)) = m := by
  induction m with
  | zero => rfl
  | succ m ih => rw [List.replicate_succ, cntN, ih, if_neg (Ne.symm (one_ne_half h)), Nat.add_comm]
theorem sw_reps {n : Nat} {d : List Int} (hd : RW n (pHalf n) d) (N : List Pm) (hN : ∀ p ∈ N, p = pOne ∨ p = pHalf n) {a : List Int} (ha : SW n N a) : Gen (BrR n) a (dl d (cntN N)) := by
  induction N generalizing a with
  | nil => cases ha; exact .refl _
  | cons p N ih =>
    cases ha with
    | @cons _ _ a1 b1 h1 h2 =>
      have ih := ih (fun q hq => hN q (by simp [hq])) h2
      rw [cntN]
      by_cases e : p = pOne
      · subst e
        rw [if_pos rfl, Nat.zero_add]
        exact ((rw_uniq _ (Sup.one n) h1 .nil).right b1).trans ih
      · rw [if_neg e, Nat.add_comm, dl_succ]
        have e2 : p = pHalf n := (hN p (by simp)).resolve_left e
        subst e2
        exact (rw_uniq _ (Sup.half n) h1 hd).cong ih
/-- A word is trivial exactly if its list comes to half twists, as many as were taken away. -/
theorem trivial_iff {n : Nat} {w : List Int} (hw : In n w) {N : List Pm} (hN : Mvs n (lst n w).2 N) (hi : Irr n N) :
    Gen (BrR n) w [] ↔ (∀ p ∈ N, p = pOne ∨ p = pHalf n) ∧ cntN N = (lst n w).1 := by
  constructor
  · intro h
    by_cases hn : 2 ≤ (n : Int)
    · obtain ⟨r, r', e⟩ := trivial_lst h hN hi
      refine ⟨fun p hp => ?_, ?_⟩
      · have : p ∈ N ++ List.replicate r pOne := by simp [hp]
        rw [e] at this
        rcases List.mem_append.1 this with h | h
        · exact .inr (List.eq_of_mem_replicate h)
        · exact .inl (List.eq_of_mem_replicate h)
      · have := congrArg cntN e
        rw [cntN_append, cntN_append, cntN_ones, cntN_ones, cntN_halfs hn] at this
        simpa using this
    · have : w = [] := by
        cases w with
        | nil => rfl
        | cons x w => have := hw x (by simp); omega
      subst this
      have : N = [] := by cases hN with | refl => rfl | head h _ => cases h
      subst this
      exact ⟨by simp, rfl⟩
  · rintro ⟨h1, h2⟩
    obtain ⟨d, hd⟩ := rw_ex (pHalf n) (Sup.half n)
    obtain ⟨a, ha, hg⟩ := word_lst hd w hw
    obtain ⟨b, hb, hg2⟩ := sw_mvs hN (lst_sups n w) ha
    have h3 := (hg.trans hg2).trans (sw_reps hd N h1 hb)
    rw [h2] at h3
    have h4 : (GQ.mk (dl d (lst n w).1) * GQ.mk w : BG n) = GQ.mk (dl d (lst n w).1) * 1 := by
      rw [GQ.mul_one]; exact GQ.eq.2 h3
    exact GQ.eq.1 (GQ.left_cancel h4)
end Go.Proofs.Ytcinnbkhnonijaa
