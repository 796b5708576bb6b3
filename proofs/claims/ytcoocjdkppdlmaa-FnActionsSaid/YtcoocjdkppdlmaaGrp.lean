/-
  Plain law: words modulo relations and cancelling (Gen), and their group (GQ). No program in sight.
-/
import Derived.Test.YtcoocjdkppdlmaaFg
namespace Go.Proofs.Ytcoocjdkppdlmaa
set_option maxRecDepth 10000

/-- Words that relations and cancelling make equal. -/
inductive Gen (B : List Int → List Int → Prop) : List Int → List Int → Prop
  | refl (a : List Int) : Gen B a a
  | symm {a b : List Int} : Gen B a b → Gen B b a
  | trans {a b c : List Int} : Gen B a b → Gen B b c → Gen B a c
  | cong {a b c d : List Int} : Gen B a b → Gen B c d → Gen B (a ++ c) (b ++ d)
  | can (x : Int) : Gen B [x, -x] []
  | base {a b : List Int} : B a b → Gen B a b
section
variable {B : List Int → List Int → Prop}
theorem Gen.of_eq {a b : List Int} (h : a = b) : Gen B a b := h ▸ Gen.refl a
theorem Gen.mono {B' : List Int → List Int → Prop} (hB : ∀ a b, B a b → B' a b) {a b : List Int} (h : Gen B a b) : Gen B' a b := by
  induction h with
  | refl a => exact .refl a
  | symm _ ih => exact ih.symm
  | trans _ _ i1 i2 => exact i1.trans i2
  | cong _ _ i1 i2 => exact i1.cong i2
  | can x => exact .can x
  | base h => exact .base (hB _ _ h)
theorem Gen.left (c : List Int) {a b : List Int} (h : Gen B a b) : Gen B (c ++ a) (c ++ b) := (Gen.refl c).cong h
theorem Gen.right (c : List Int) {a b : List Int} (h : Gen B a b) : Gen B (a ++ c) (b ++ c) := h.cong (Gen.refl c)
theorem inv_cons (x : Int) (l : List Int) : inv (x :: l) = inv l ++ [-x] := by simp [inv]
theorem inv_nil : inv [] = [] := rfl
theorem Gen.inv_r (a : List Int) : Gen B (a ++ inv a) [] := by
  induction a with
  | nil => exact .refl _
  | cons x l ih =>
    rw [inv_cons, show (x :: l) ++ (inv l ++ [-x]) = [x] ++ ((l ++ inv l) ++ [-x]) by simp]
    exact ((ih.right [-x]).left [x]).trans (.can x)
theorem Gen.inv_l (a : List Int) : Gen B (inv a ++ a) [] := by
  have := Gen.inv_r (B := B) (inv a)
  rwa [inv_inv] at this
theorem Gen.inv {a b : List Int} (h : Gen B a b) : Gen B (inv a) (inv b) := by
  have h1 : Gen B (Go.Proofs.Ytcoocjdkppdlmaa.inv a ++ b ++ Go.Proofs.Ytcoocjdkppdlmaa.inv b) (Go.Proofs.Ytcoocjdkppdlmaa.inv b) := (((h.symm.left _).trans (Gen.inv_l a)).right _)
  have h2 : Gen B (Go.Proofs.Ytcoocjdkppdlmaa.inv a) (Go.Proofs.Ytcoocjdkppdlmaa.inv a ++ b ++ Go.Proofs.Ytcoocjdkppdlmaa.inv b) := by
    have := ((Gen.inv_r (B := B) b).symm.left (Go.Proofs.Ytcoocjdkppdlmaa.inv a))
    simpa using this
  exact h2.trans h1
end
def gSet (B : List Int → List Int → Prop) : Setoid (List Int) := ⟨Gen B, ⟨Gen.refl, Gen.symm, Gen.trans⟩⟩
/-- The group of words modulo relations. -/
def GQ (B : List Int → List Int → Prop) : Type := Quotient (gSet B)
def GQ.mk {B : List Int → List Int → Prop} (a : List Int) : GQ B := Quotient.mk (gSet B) a
theorem GQ.eq {B : List Int → List Int → Prop} {a b : List Int} : (GQ.mk a : GQ B) = GQ.mk b ↔ Gen B a b :=
  ⟨fun h => Quotient.exact (s := gSet B) h, fun h => Quotient.sound (s := gSet B) h⟩
theorem GQ.ind {B : List Int → List Int → Prop} {p : GQ B → Prop} (h : ∀ a, p (GQ.mk a)) (x : GQ B) : p x := Quotient.inductionOn (s := gSet B) x h
instance {B : List Int → List Int → Prop} : Mul (GQ B) := ⟨Quotient.lift₂ (s₁ := gSet B) (s₂ := gSet B) (fun a b => (GQ.mk (a ++ b) : GQ B)) fun _ _ _ _ h k => GQ.eq.2 (Gen.cong h k)⟩
instance {B : List Int → List Int → Prop} : OfNat (GQ B) 1 := ⟨GQ.mk []⟩
def GQ.inv {B : List Int → List Int → Prop} : GQ B → GQ B := Quotient.lift (s := gSet B) (fun a => (GQ.mk (Go.Proofs.Ytcoocjdkppdlmaa.inv a) : GQ B)) fun _ _ h => GQ.eq.2 (Gen.inv h)
section
variable {B : List Int → List Int → Prop}
theorem GQ.mk_append (a b : List Int) : (GQ.mk (a ++ b) : GQ B) = GQ.mk a * GQ.mk b := rfl
theorem GQ.mk_nil : (GQ.mk [] : GQ B) = 1 := rfl
theorem GQ.mk_cons (x : Int) (b : List Int) : (GQ.mk (x :: b) : GQ B) = GQ.mk [x] * GQ.mk b := rfl
theorem GQ.mk_inv (a : List Int) : (GQ.mk (Go.Proofs.Ytcoocjdkppdlmaa.inv a) : GQ B) = (GQ.mk a).inv := rfl
theorem GQ.mk_neg (x : Int) : (GQ.mk [-x] : GQ B) = (GQ.mk [x]).inv := rfl
theorem GQ.mul_assoc (a b c : GQ B) : a * b * c = a * (b * c) := by
  refine GQ.ind (p := fun a => a * b * c = a * (b * c)) (fun a => ?_) a
  refine GQ.ind (p := fun b => GQ.mk a * b * c = GQ.mk a * (b * c)) (fun b => ?_) b
  refine GQ.ind (p := fun c => GQ.mk a * GQ.mk b * c = GQ.mk a * (GQ.mk b * c)) (fun c => ?_) c
  show GQ.mk (a ++ b ++ c) = GQ.mk (a ++ (b ++ c))
  rw [List.append_assoc]
@[simp] theorem GQ.one_mul (a : GQ B) : 1 * a = a := GQ.ind (p := fun a => 1 * a = a) (fun _ => rfl) a
@[simp] theorem GQ.mul_one (a : GQ B) : a * 1 = a := GQ.ind (p := fun a => a * 1 = a) (fun a => by show GQ.mk (a ++ []) = GQ.mk a; rw [List.append_nil]) a
@[simp] theorem GQ.mul_inv (a : GQ B) : a * a.inv = 1 := GQ.ind (p := fun a => a * a.inv = 1) (fun a => GQ.eq.2 (Gen.inv_r a)) a
@[simp] theorem GQ.inv_mul (a : GQ B) : a.inv * a = 1 := GQ.ind (p := fun a => a.inv * a = 1) (fun a => GQ.eq.2 (Gen.inv_l a)) a
@[simp] theorem GQ.inv_mul_left (a b : GQ B) : a.inv * (a * b) = b := by rw [← GQ.mul_assoc, GQ.inv_mul, GQ.one_mul]
@[simp] theorem GQ.mul_inv_left (a b : GQ B) : a * (a.inv * b) = b := by rw [← GQ.mul_assoc, GQ.mul_inv, GQ.one_mul]
theorem GQ.left_cancel {a b c : GQ B} (h : a * b = a * c) : b = c := by rw [← GQ.inv_mul_left a b, h, GQ.inv_mul_left]
theorem GQ.right_cancel {a b c : GQ B} (h : b * a = c * a) : b = c := by
  have := congrArg (· * a.inv) h
  simpa [GQ.mul_assoc, GQ.mul_inv, GQ.mul_one] using this
theorem GQ.inv_of {a b : GQ B} (h : a * b = 1) : a.inv = b := by
  apply GQ.left_cancel (a := a); rw [GQ.mul_inv, h]
@[simp] theorem GQ.inv_inv (a : GQ B) : a.inv.inv = a := GQ.inv_of (GQ.inv_mul a)
@[simp] theorem GQ.inv_one : (1 : GQ B).inv = 1 := GQ.inv_of (GQ.one_mul 1)
@[simp] theorem GQ.inv_prod (a b : GQ B) : (a * b).inv = b.inv * a.inv := GQ.inv_of (by rw [GQ.mul_assoc, GQ.mul_inv_left, GQ.mul_inv])
/-- Two elements that commute; and their inverses. -/
theorem GQ.comm_inv {a b : GQ B} (h : a * b = b * a) : a * b.inv = b.inv * a := by
  apply GQ.left_cancel (a := b)
  rw [← GQ.mul_assoc, ← h, GQ.mul_assoc, GQ.mul_inv, GQ.mul_one, GQ.mul_inv_left]
theorem GQ.comm_mul {a b c : GQ B} (h : a * b = b * a) (h2 : a * c = c * a) : a * (b * c) = b * c * a := by
  rw [← GQ.mul_assoc, h, GQ.mul_assoc, h2, GQ.mul_assoc]
end
/-- The free group. -/
abbrev FG : Type := GQ fun _ _ => False
theorem gen_red (xs : List Int) : Gen (fun _ _ => False) xs (red xs) := by
  rcases nil_or_snoc xs with rfl | ⟨l, x, rfl⟩
  · exact .refl _
  · have hlt : l.length < (l ++ [x]).length := by simp
    have ih := gen_red l
    have e : red (l ++ [x]) = push (red l) x := pushAll_snoc _ _ _
    rw [e]
    refine (ih.right [x]).trans ?_
    unfold push
    split
    · rename_i hl
      rcases nil_or_snoc (red l) with h0 | ⟨r, y, hr⟩
      · rw [h0] at hl; cases hl
      · rw [hr] at hl ⊢
        simp only [List.getLast?_append, List.getLast?_singleton, Option.some_or, Option.some.injEq] at hl
        subst hl
        rw [List.dropLast_concat, List.append_assoc]
        have := (Gen.can (B := fun _ _ => False) (-x)).left r
        simpa using this
    · exact .refl _
termination_by xs.length
theorem red_gen {a b : List Int} (h : Gen (fun _ _ => False) a b) : red a = red b := by
  induction h with
  | refl a => rfl
  | symm _ ih => exact ih.symm
  | trans _ _ i1 i2 => exact i1.trans i2
  | @cong a b c d _ _ i1 i2 => rw [red_append, red_append, i1, ← pushAll_red (rdc_red b) c, i2, pushAll_red (rdc_red b)]
  | can x =>
    show pushAll (push (push [] x) (-x)) [] = []
    have := push_push (out := []) (show Rdc [] from trivial) (-x)
    rw [Int.neg_neg] at this
    rw [this]; rfl
  | base h => exact h.elim
/-- Words are equal in the free group if their reduced words are. -/
theorem fg_eq {a b : List Int} : (GQ.mk a : GQ fun _ _ => False) = GQ.mk b ↔ red a = red b := by
  rw [GQ.eq]
  constructor
  · exact red_gen
  · intro h
    have := gen_red a
    rw [h] at this
    exact this.trans (gen_red b).symm
end Go.Proofs.Ytcoocjdkppdlmaa
