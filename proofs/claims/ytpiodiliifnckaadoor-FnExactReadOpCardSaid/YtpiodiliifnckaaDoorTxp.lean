/-
  Contracts: PassText of the program and of the reference. Printed by gen_txp.py.
-/
import Derived.Test.YtpiodiliifnckaaDoorTxd
import Derived.Test.YtpiodiliifnckaaDoorSt
import Derived.Test.YtpiodiliifnckaaDoorPass
import Derived.Deep.RegionHeld3
import Derived.Deep.DeepCutAuto
namespace Go.Proofs.YtpiodiliifnckaaDoor
set_option maxRecDepth 10000
open Go.RowKit Go.Sort

/-- The sign of a direction. -/
def dirS (d : Int) : ByteArray := if d = 1 then { data := #[62] } else { data := #[60] }
theorem dirS_size (d : Int) : (dirS d).size ≤ 1 := by unfold dirS; split <;> decide
theorem l08Dir_any (d : Int) (w : World) : Calls Tryd.prog 22 #[.int .i64 d] w fun e w' => e = .returned (.string (dirS d)) ∧ Below w.heap.size w w' := by
  by_cases h : d = 1
  · subst h
    go_enter Tryd.func22, Tryd.ntmps22
    go_wp2_with fail
    go_ret
    exact ⟨rfl, Below.refl _ _⟩
  · have h1 : (d == 1) = false := by simpa using h
    have HS : Hid (dirS d = { data := #[60] }) := Lib.hid (if_neg h)
    go_enter Tryd.func22, Tryd.ntmps22
    go_wp2_with fail
    go_ret
    rw [HS.out]
    exact ⟨rfl, Below.refl _ _⟩
theorem directionText_any (d : Int) (w : World) : Calls Tryd.prog 25 #[.int .i64 d] w fun e w' => e = .returned (.string (dirS d)) ∧ Below w.heap.size w w' := by
  by_cases h : d = 1
  · subst h
    go_enter Tryd.func25, Tryd.ntmps25
    go_wp2_with fail
    go_ret
    exact ⟨rfl, Below.refl _ _⟩
  · have h1 : (d == 1) = false := by simpa using h
    have HS : Hid (dirS d = { data := #[60] }) := Lib.hid (if_neg h)
    go_enter Tryd.func25, Tryd.ntmps25
    go_wp2_with fail
    go_ret
    rw [HS.out]
    exact ⟨rfl, Below.refl _ _⟩
/-- The text of a pass: its head and its tail. -/
def passH (k d c : Int) : ByteArray := if k = 1 then ({ data := #[121, 97, 114, 110, 32] } ++ dirS d ++ { data := #[32] }) ++ dec c else if k = 2 then { data := #[120, 102, 101, 114] } else { data := #[100, 114, 111, 112] }
def passT (k d c r f n : Int) : ByteArray := (((((passH k d c ++ { data := #[32, 114, 97, 99, 107, 32] }) ++ dec r) ++ { data := #[32, 111, 112, 115, 32] }) ++ dec f) ++ { data := #[32, 116, 111, 32] }) ++ dec (f + n - 1)
def passR (k d c r f n : Int) : ByteArray := if vPass k d c r f n then passT k d c r f n else { data := #[] }
theorem vPass_bd {k d c r f n : Int} (h : vPass k d c r f n = true) : (-3 ≤ r ∧ r ≤ 3) ∧ (0 ≤ f ∧ f ≤ 1499) ∧ (1 ≤ n ∧ n ≤ 1500 - f) ∧ (0 ≤ c ∧ c ≤ 4) ∧ (k = 1 ∨ k = 2 ∨ k = 3) := by
  simp only [vPass, Bool.and_eq_true, inR_iff] at h
  obtain ⟨⟨⟨a, b⟩, e⟩, g⟩ := h
  refine ⟨a, b, e, ?_⟩
  split at g
  · simp only [Bool.and_eq_true, inR_iff] at g
    omega
  · simp only [Bool.and_eq_true, inR_iff, beq_iff_eq] at g
    omega
theorem box6 {w : World} {g : Nat} {a b c d e f : Value} {t : TypeId} (hx : w.heap[g]? = some (.cells #[a, b, c, d, e, f] t)) :
    (w.cell? ⟨g, 0, none⟩ = some a ∧ w.cell? ⟨g, 1, none⟩ = some b ∧ w.cell? ⟨g, 2, none⟩ = some c ∧ w.cell? ⟨g, 3, none⟩ = some d ∧ w.cell? ⟨g, 4, none⟩ = some e ∧ w.cell? ⟨g, 5, none⟩ = some f) ∧ g < w.heap.size :=
  ⟨⟨cell_of_row w g 0 _ t (0, 0) hx, cell_of_row w g 1 _ t (0, 0) hx, cell_of_row w g 2 _ t (0, 0) hx, cell_of_row w g 3 _ t (0, 0) hx, cell_of_row w g 4 _ t (0, 0) hx, cell_of_row w g 5 _ t (0, 0) hx⟩, heap_lt hx⟩
set_option maxHeartbeats 3200000 in
theorem impl_PassText_any (k d c r f n : Int) {w : World} (ht : Tab w) :
    Calls Tryd.prog 9 #[.agg #[.int .i64 k, .int .i64 d, .int .i64 c, .int .i64 r, .int .i64 f, .int .i64 n]] w fun e w' => e = .returned (.string (passR k d c r f n)) ∧ Below w.heap.size w w' := by
  have HT := Lib.hid ht
  clear ht
  cases hv : vPass k d c r f n
  · have HR : Hid (passR k d c r f n = { data := #[] }) := Lib.hid (by rw [passR, hv]; rfl)
    have HV := Lib.hid (fun W : World => impl_ValidPass_any k d c r f n W)
    rw [hv] at HV
    go_enter Tryd.func9, Tryd.ntmps9
    go_wp2_with fail
    refine (HV.out _).mono ?_
    rintro e w1 ⟨rfl, hb⟩
    have HB := Lib.hid ((al1 w (.cells #[.int .i64 k, .int .i64 d, .int .i64 c, .int .i64 r, .int .i64 f, .int .i64 n] 25)).trans (hb.mono (by simp)))
    clear hb
    go_wp2_with fail
    go_ret
    rw [HR.out]
    exact ⟨rfl, HB.out⟩
  · have HR : Hid (passR k d c r f n = passT k d c r f n) := Lib.hid (by rw [passR, hv]; rfl)
    have HV := Lib.hid (fun W : World => impl_ValidPass_any k d c r f n W)
    rw [hv] at HV
    obtain ⟨⟨r0, r1⟩, ⟨f0, f1⟩, ⟨n0, n1⟩, ⟨c0, c1⟩, hk⟩ := vPass_bd hv
    clear hv
    have HX := Lib.hid (alloc_at_ w (.cells #[.int .i64 k, .int .i64 d, .int .i64 c, .int .i64 r, .int .i64 f, .int .i64 n] 25))
    have HA := Lib.hid (al1 w (.cells #[.int .i64 k, .int .i64 d, .int .i64 c, .int .i64 r, .int .i64 f, .int .i64 n] 25))
    go_enter Tryd.func9, Tryd.ntmps9
    go_wp2_with fail
    refine (HV.out _).mono ?_
    rintro e w1 ⟨rfl, hb⟩
    have HB := Lib.hid (HA.out.trans (hb.mono (by simp)))
    have HX1 := Lib.hid (keep_fwd hb HX.out)
    have HT1 := Lib.hid (HT.out.below HB.out)
    have hlt := heap_lt HX1.out
    clear hb HV HX HA
    obtain ⟨⟨x0, x1, x2, x3, x4, x5⟩, -⟩ := box6 HX1.out
    have HK := Lib.hid (fun w' (hw : Below w1.heap.size w1 w') => show w'.cell? ⟨w.heap.size, 1, none⟩ = some (.int .i64 d) ∧ w'.cell? ⟨w.heap.size, 2, none⟩ = some (.int .i64 c) ∧ Below w1.heap.size w1 w' from ⟨by rw [hw.cell (by simp only; omega)]; exact x1, by rw [hw.cell (by simp only; omega)]; exact x2, hw⟩)
    clear x0 x1 x2 x3 x4 x5
    obtain ⟨s1, hs1, z1, ad1⟩ := cat (x := { data := #[121, 97, 114, 110, 32] }) (y := dirS d) (a := 5) (b := 1) (by decide) (dirS_size d) (by decide)
    obtain ⟨s2, hs2, z2, ad2⟩ := cat (x := s1) (y := { data := #[32] }) (a := 6) (b := 1) z1 (by decide) (by decide)
    obtain ⟨s3, hs3, z3, ad3⟩ := cat (x := s2) (y := dec c) (a := 7) (b := 21) z2 (dec_size (by constructor <;> omega)) (by decide)
    have HS3 : Hid (s3 = ({ data := #[121, 97, 114, 110, 32] } ++ dirS d ++ { data := #[32] }) ++ dec c) := Lib.hid (by rw [hs3, hs2, hs1])
    clear hs1 hs2 hs3 z1 z2
    go_upto_region 3 with fail
    go_region_held3 (fun w' => w'.cell? ⟨w.heap.size, 1, none⟩ = some (.int .i64 d) ∧ w'.cell? ⟨w.heap.size, 2, none⟩ = some (.int .i64 c) ∧ Below w1.heap.size w1 w')
      (exact HK.out _ (by first | assumption | go_grown))
      (first
        | (go_at_call_of 25 (Go.Value.int .i64 (d)); (refine (directionText_any d _).mono ?_); rintro e wq ⟨rfl, hq⟩; have hr : Below w1.heap.size w1 wq := Below.trans (by first | assumption | go_grown) (hq.mono (Below.size (w := w1) (B := w1.heap.size) (by first | assumption | go_grown))); clear hq)
        | (go_at_call_of 26 (Go.Value.int .i64 (c)); (refine (Decimal_any (n := c) (by constructor <;> omega) (HT1.out.below (show Below w1.heap.size w1 _ by first | assumption | go_grown))).mono ?_); rintro e wq ⟨rfl, hq⟩; have hr : Below w1.heap.size w1 wq := Below.trans (by first | assumption | go_grown) (hq.mono (Below.size (w := w1) (B := w1.heap.size) (by first | assumption | go_grown))); clear hq))
    obtain ⟨w2, hw2⟩ : ∃ x, x = wq := ⟨_, rfl⟩
    subst hw2
    have HX2 := Lib.hid (keep_fwd hr HX1.out)
    have HT2 := Lib.hid (HT1.out.below hr)
    have HB2 := Lib.hid (HB.out.trans (hr.mono HB.out.size))
    clear hr HK ad1 ad2 ad3 HX1 HT1 HB
    rcases hk with rfl | rfl | rfl
    · have hhd : passH (1) d c = s3 := HS3.out.symm
      obtain ⟨⟨x0, x1, x2, x3, x4, x5⟩, hxl⟩ := box6 HX2.out
      have HK := Lib.hid (fun w' (hw : Below w2.heap.size w2 w') => show w'.cell? ⟨w.heap.size, 3, none⟩ = some (.int .i64 r) ∧ w'.cell? ⟨w.heap.size, 4, none⟩ = some (.int .i64 f) ∧ w'.cell? ⟨w.heap.size, 5, none⟩ = some (.int .i64 n) ∧ Below w2.heap.size w2 w' from ⟨by rw [hw.cell (by simp only; omega)]; exact x3, by rw [hw.cell (by simp only; omega)]; exact x4, by rw [hw.cell (by simp only; omega)]; exact x5, hw⟩)
      clear x1 x2 x3 x4 x5
      obtain ⟨t0, ht0, hs0, had0⟩ := cat (x := s3) (y := { data := #[32, 114, 97, 99, 107, 32] }) (a := 28) (b := 6) z3 (by decide) (by decide)
      obtain ⟨t1, ht1, hs1, had1⟩ := cat (x := t0) (y := dec (r)) (a := 34) (b := 21) hs0 (dec_size (by constructor <;> omega)) (by decide)
      obtain ⟨t2, ht2, hs2, had2⟩ := cat (x := t1) (y := { data := #[32, 111, 112, 115, 32] }) (a := 55) (b := 5) hs1 (by decide) (by decide)
      obtain ⟨t3, ht3, hs3, had3⟩ := cat (x := t2) (y := dec (f)) (a := 60) (b := 21) hs2 (dec_size (by constructor <;> omega)) (by decide)
      obtain ⟨t4, ht4, hs4, had4⟩ := cat (x := t3) (y := { data := #[32, 116, 111, 32] }) (a := 81) (b := 4) hs3 (by decide) (by decide)
      obtain ⟨t5, ht5, hs5, had5⟩ := cat (x := t4) (y := dec (f + n - 1)) (a := 85) (b := 21) hs4 (dec_size (by constructor <;> omega)) (by decide)
      have HWR : Hid (IntKind.i64.wrap (IntKind.i64.wrap (f + n) - 1) = f + n - 1) := Lib.hid (by rw [IntWalk.i64_in (f + n) (by omega)]; exact IntWalk.i64_in _ (by omega))
      have HTX : Hid (t5 = passT (1) d c r f n) := Lib.hid (by rw [ht5, ht4, ht3, ht2, ht1, ht0]; unfold passT; rw [hhd])
      clear ht0 ht1 ht2 ht3 ht4 ht5 hs0 hs1 hs2 hs3 hs4 hs5 hhd
      go_wp2_with fail
      clear x0
      go_region_held3 (fun w' => w'.cell? ⟨w.heap.size, 3, none⟩ = some (.int .i64 r) ∧ w'.cell? ⟨w.heap.size, 4, none⟩ = some (.int .i64 f) ∧ w'.cell? ⟨w.heap.size, 5, none⟩ = some (.int .i64 n) ∧ Below w2.heap.size w2 w')
        (exact HK.out _ (by first | assumption | go_grown))
        (first
          | (go_at_call_of 26 (Go.Value.int .i64 (r)); (refine (Decimal_any (n := r) (by constructor <;> omega) (HT2.out.below (show Below w2.heap.size w2 _ by first | assumption | go_grown))).mono ?_); rintro e wq ⟨rfl, hq⟩; have hr : Below w2.heap.size w2 wq := Below.trans (by first | assumption | go_grown) (hq.mono (Below.size (w := w2) (B := w2.heap.size) (by first | assumption | go_grown))); clear hq)
          | (go_at_call_of 26 (Go.Value.int .i64 (f)); (refine (Decimal_any (n := f) (by constructor <;> omega) (HT2.out.below (show Below w2.heap.size w2 _ by first | assumption | go_grown))).mono ?_); rintro e wq ⟨rfl, hq⟩; have hr : Below w2.heap.size w2 wq := Below.trans (by first | assumption | go_grown) (hq.mono (Below.size (w := w2) (B := w2.heap.size) (by first | assumption | go_grown))); clear hq)
          | (go_at_call 26; rw [HWR.out]; (refine (Decimal_any (n := f + n - 1) (by constructor <;> omega) (HT2.out.below (show Below w2.heap.size w2 _ by first | assumption | go_grown))).mono ?_); rintro e wq ⟨rfl, hq⟩; have hr : Below w2.heap.size w2 wq := Below.trans (by first | assumption | go_grown) (hq.mono (Below.size (w := w2) (B := w2.heap.size) (by first | assumption | go_grown))); clear hq))
      go_wp2_with fail
      go_ret
      rw [HR.out, ← HTX.out]
      exact ⟨rfl, HB2.out.trans (hr.mono HB2.out.size)⟩
    · have hhd : passH (2) d c = { data := #[120, 102, 101, 114] } := rfl
      obtain ⟨⟨x0, x1, x2, x3, x4, x5⟩, hxl⟩ := box6 HX2.out
      have HK := Lib.hid (fun w' (hw : Below w2.heap.size w2 w') => show w'.cell? ⟨w.heap.size, 3, none⟩ = some (.int .i64 r) ∧ w'.cell? ⟨w.heap.size, 4, none⟩ = some (.int .i64 f) ∧ w'.cell? ⟨w.heap.size, 5, none⟩ = some (.int .i64 n) ∧ Below w2.heap.size w2 w' from ⟨by rw [hw.cell (by simp only; omega)]; exact x3, by rw [hw.cell (by simp only; omega)]; exact x4, by rw [hw.cell (by simp only; omega)]; exact x5, hw⟩)
      clear x1 x2 x3 x4 x5
      obtain ⟨t0, ht0, hs0, had0⟩ := cat (x := { data := #[120, 102, 101, 114] }) (y := { data := #[32, 114, 97, 99, 107, 32] }) (a := 4) (b := 6) (by decide) (by decide) (by decide)
      obtain ⟨t1, ht1, hs1, had1⟩ := cat (x := t0) (y := dec (r)) (a := 10) (b := 21) hs0 (dec_size (by constructor <;> omega)) (by decide)
      obtain ⟨t2, ht2, hs2, had2⟩ := cat (x := t1) (y := { data := #[32, 111, 112, 115, 32] }) (a := 31) (b := 5) hs1 (by decide) (by decide)
      obtain ⟨t3, ht3, hs3, had3⟩ := cat (x := t2) (y := dec (f)) (a := 36) (b := 21) hs2 (dec_size (by constructor <;> omega)) (by decide)
      obtain ⟨t4, ht4, hs4, had4⟩ := cat (x := t3) (y := { data := #[32, 116, 111, 32] }) (a := 57) (b := 4) hs3 (by decide) (by decide)
      obtain ⟨t5, ht5, hs5, had5⟩ := cat (x := t4) (y := dec (f + n - 1)) (a := 61) (b := 21) hs4 (dec_size (by constructor <;> omega)) (by decide)
      have HWR : Hid (IntKind.i64.wrap (IntKind.i64.wrap (f + n) - 1) = f + n - 1) := Lib.hid (by rw [IntWalk.i64_in (f + n) (by omega)]; exact IntWalk.i64_in _ (by omega))
      have HTX : Hid (t5 = passT (2) d c r f n) := Lib.hid (by rw [ht5, ht4, ht3, ht2, ht1, ht0]; unfold passT; rw [hhd])
      clear ht0 ht1 ht2 ht3 ht4 ht5 hs0 hs1 hs2 hs3 hs4 hs5 hhd
      go_wp2_with fail
      clear x0
      go_region_held3 (fun w' => w'.cell? ⟨w.heap.size, 3, none⟩ = some (.int .i64 r) ∧ w'.cell? ⟨w.heap.size, 4, none⟩ = some (.int .i64 f) ∧ w'.cell? ⟨w.heap.size, 5, none⟩ = some (.int .i64 n) ∧ Below w2.heap.size w2 w')
        (exact HK.out _ (by first | assumption | go_grown))
        (first
          | (go_at_call_of 26 (Go.Value.int .i64 (r)); (refine (Decimal_any (n := r) (by constructor <;> omega) (HT2.out.below (show Below w2.heap.size w2 _ by first | assumption | go_grown))).mono ?_); rintro e wq ⟨rfl, hq⟩; have hr : Below w2.heap.size w2 wq := Below.trans (by first | assumption | go_grown) (hq.mono (Below.size (w := w2) (B := w2.heap.size) (by first | assumption | go_grown))); clear hq)
          | (go_at_call_of 26 (Go.Value.int .i64 (f)); (refine (Decimal_any (n := f) (by constructor <;> omega) (HT2.out.below (show Below w2.heap.size w2 _ by first | assumption | go_grown))).mono ?_); rintro e wq ⟨rfl, hq⟩; have hr : Below w2.heap.size w2 wq := Below.trans (by first | assumption | go_grown) (hq.mono (Below.size (w := w2) (B := w2.heap.size) (by first | assumption | go_grown))); clear hq)
          | (go_at_call 26; rw [HWR.out]; (refine (Decimal_any (n := f + n - 1) (by constructor <;> omega) (HT2.out.below (show Below w2.heap.size w2 _ by first | assumption | go_grown))).mono ?_); rintro e wq ⟨rfl, hq⟩; have hr : Below w2.heap.size w2 wq := Below.trans (by first | assumption | go_grown) (hq.mono (Below.size (w := w2) (B := w2.heap.size) (by first | assumption | go_grown))); clear hq))
      go_wp2_with fail
      go_ret
      rw [HR.out, ← HTX.out]
      exact ⟨rfl, HB2.out.trans (hr.mono HB2.out.size)⟩
    · have hhd : passH (3) d c = { data := #[100, 114, 111, 112] } := rfl
      obtain ⟨⟨x0, x1, x2, x3, x4, x5⟩, hxl⟩ := box6 HX2.out
      have HK := Lib.hid (fun w' (hw : Below w2.heap.size w2 w') => show w'.cell? ⟨w.heap.size, 3, none⟩ = some (.int .i64 r) ∧ w'.cell? ⟨w.heap.size, 4, none⟩ = some (.int .i64 f) ∧ w'.cell? ⟨w.heap.size, 5, none⟩ = some (.int .i64 n) ∧ Below w2.heap.size w2 w' from ⟨by rw [hw.cell (by simp only; omega)]; exact x3, by rw [hw.cell (by simp only; omega)]; exact x4, by rw [hw.cell (by simp only; omega)]; exact x5, hw⟩)
      clear x1 x2 x3 x4 x5
      obtain ⟨t0, ht0, hs0, had0⟩ := cat (x := { data := #[100, 114, 111, 112] }) (y := { data := #[32, 114, 97, 99, 107, 32] }) (a := 4) (b := 6) (by decide) (by decide) (by decide)
      obtain ⟨t1, ht1, hs1, had1⟩ := cat (x := t0) (y := dec (r)) (a := 10) (b := 21) hs0 (dec_size (by constructor <;> omega)) (by decide)
      obtain ⟨t2, ht2, hs2, had2⟩ := cat (x := t1) (y := { data := #[32, 111, 112, 115, 32] }) (a := 31) (b := 5) hs1 (by decide) (by decide)
      obtain ⟨t3, ht3, hs3, had3⟩ := cat (x := t2) (y := dec (f)) (a := 36) (b := 21) hs2 (dec_size (by constructor <;> omega)) (by decide)
      obtain ⟨t4, ht4, hs4, had4⟩ := cat (x := t3) (y := { data := #[32, 116, 111, 32] }) (a := 57) (b := 4) hs3 (by decide) (by decide)
      obtain ⟨t5, ht5, hs5, had5⟩ := cat (x := t4) (y := dec (f + n - 1)) (a := 61) (b := 21) hs4 (dec_size (by constructor <;> omega)) (by decide)
      have HWR : Hid (IntKind.i64.wrap (IntKind.i64.wrap (f + n) - 1) = f + n - 1) := Lib.hid (by rw [IntWalk.i64_in (f + n) (by omega)]; exact IntWalk.i64_in _ (by omega))
      have HTX : Hid (t5 = passT (3) d c r f n) := Lib.hid (by rw [ht5, ht4, ht3, ht2, ht1, ht0]; unfold passT; rw [hhd])
      clear ht0 ht1 ht2 ht3 ht4 ht5 hs0 hs1 hs2 hs3 hs4 hs5 hhd
      go_wp2_with fail
      clear x0
      go_region_held3 (fun w' => w'.cell? ⟨w.heap.size, 3, none⟩ = some (.int .i64 r) ∧ w'.cell? ⟨w.heap.size, 4, none⟩ = some (.int .i64 f) ∧ w'.cell? ⟨w.heap.size, 5, none⟩ = some (.int .i64 n) ∧ Below w2.heap.size w2 w')
        (exact HK.out _ (by first | assumption | go_grown))
        (first
          | (go_at_call_of 26 (Go.Value.int .i64 (r)); (refine (Decimal_any (n := r) (by constructor <;> omega) (HT2.out.below (show Below w2.heap.size w2 _ by first | assumption | go_grown))).mono ?_); rintro e wq ⟨rfl, hq⟩; have hr : Below w2.heap.size w2 wq := Below.trans (by first | assumption | go_grown) (hq.mono (Below.size (w := w2) (B := w2.heap.size) (by first | assumption | go_grown))); clear hq)
          | (go_at_call_of 26 (Go.Value.int .i64 (f)); (refine (Decimal_any (n := f) (by constructor <;> omega) (HT2.out.below (show Below w2.heap.size w2 _ by first | assumption | go_grown))).mono ?_); rintro e wq ⟨rfl, hq⟩; have hr : Below w2.heap.size w2 wq := Below.trans (by first | assumption | go_grown) (hq.mono (Below.size (w := w2) (B := w2.heap.size) (by first | assumption | go_grown))); clear hq)
          | (go_at_call 26; rw [HWR.out]; (refine (Decimal_any (n := f + n - 1) (by constructor <;> omega) (HT2.out.below (show Below w2.heap.size w2 _ by first | assumption | go_grown))).mono ?_); rintro e wq ⟨rfl, hq⟩; have hr : Below w2.heap.size w2 wq := Below.trans (by first | assumption | go_grown) (hq.mono (Below.size (w := w2) (B := w2.heap.size) (by first | assumption | go_grown))); clear hq))
      go_wp2_with fail
      go_ret
      rw [HR.out, ← HTX.out]
      exact ⟨rfl, HB2.out.trans (hr.mono HB2.out.size)⟩
set_option maxHeartbeats 3200000 in
theorem spec_PassText_any (k d c r f n : Int) (w : World) :
    Calls Tryd.prog 7 #[.agg #[.int .i64 k, .int .i64 d, .int .i64 c, .int .i64 r, .int .i64 f, .int .i64 n]] w fun e w' => e = .returned (.string (passR k d c r f n)) ∧ Below w.heap.size w w' := by
  cases hv : vPass k d c r f n
  · have HR : Hid (passR k d c r f n = { data := #[] }) := Lib.hid (by rw [passR, hv]; rfl)
    have HV := Lib.hid (l09Ok_any k d c r f n w.heap.size 0 (w.alloc (.cells #[.int .i64 k, .int .i64 d, .int .i64 c, .int .i64 r, .int .i64 f, .int .i64 n] 25)) ⟨by simp, by simp, by simp, by simp, by simp, by simp⟩)
    rw [hv] at HV
    go_enter Tryd.func7, Tryd.ntmps7
    go_wp2_with fail
    refine HV.out.mono ?_
    rintro e w1 ⟨rfl, hb⟩
    have HB := Lib.hid ((al1 w (.cells #[.int .i64 k, .int .i64 d, .int .i64 c, .int .i64 r, .int .i64 f, .int .i64 n] 25)).trans (hb.mono (by simp)))
    clear hb
    go_wp2_with fail
    go_ret
    rw [HR.out]
    exact ⟨rfl, HB.out⟩
  · have HR : Hid (passR k d c r f n = passT k d c r f n) := Lib.hid (by rw [passR, hv]; rfl)
    have HV := Lib.hid (l09Ok_any k d c r f n w.heap.size 0 (w.alloc (.cells #[.int .i64 k, .int .i64 d, .int .i64 c, .int .i64 r, .int .i64 f, .int .i64 n] 25)) ⟨by simp, by simp, by simp, by simp, by simp, by simp⟩)
    rw [hv] at HV
    obtain ⟨⟨r0, r1⟩, ⟨f0, f1⟩, ⟨n0, n1⟩, ⟨c0, c1⟩, hk⟩ := vPass_bd hv
    clear hv
    have HX := Lib.hid (alloc_at_ w (.cells #[.int .i64 k, .int .i64 d, .int .i64 c, .int .i64 r, .int .i64 f, .int .i64 n] 25))
    have HA := Lib.hid (al1 w (.cells #[.int .i64 k, .int .i64 d, .int .i64 c, .int .i64 r, .int .i64 f, .int .i64 n] 25))
    go_enter Tryd.func7, Tryd.ntmps7
    go_wp2_with fail
    refine HV.out.mono ?_
    rintro e w1 ⟨rfl, hb⟩
    have HB := Lib.hid (HA.out.trans (hb.mono (by simp)))
    have HX1 := Lib.hid (keep_fwd hb HX.out)
    have hlt := heap_lt HX1.out
    clear hb HV HX HA
    rcases hk with rfl | rfl | rfl
    · obtain ⟨⟨x0, x1, x2, x3, x4, x5⟩, -⟩ := box6 HX1.out
      have HK := Lib.hid (fun w' (hw : Below w1.heap.size w1 w') => show w'.cell? ⟨w.heap.size, 1, none⟩ = some (.int .i64 d) ∧ w'.cell? ⟨w.heap.size, 2, none⟩ = some (.int .i64 c) ∧ Below w1.heap.size w1 w' from ⟨by rw [hw.cell (by simp only; omega)]; exact x1, by rw [hw.cell (by simp only; omega)]; exact x2, hw⟩)
      clear x1 x2 x3 x4 x5
      obtain ⟨s1, hs1, z1, ad1⟩ := cat (x := { data := #[121, 97, 114, 110, 32] }) (y := dirS d) (a := 5) (b := 1) (by decide) (dirS_size d) (by decide)
      obtain ⟨s2, hs2, z2, ad2⟩ := cat (x := s1) (y := { data := #[32] }) (a := 6) (b := 1) z1 (by decide) (by decide)
      obtain ⟨s3, hs3, z3, ad3⟩ := cat (x := s2) (y := dec c) (a := 7) (b := 21) z2 (dec_size (by constructor <;> omega)) (by decide)
      have HS3 : Hid (s3 = ({ data := #[121, 97, 114, 110, 32] } ++ dirS d ++ { data := #[32] }) ++ dec c) := Lib.hid (by rw [hs3, hs2, hs1])
      clear hs1 hs2 hs3 z1 z2
      go_wp2_with fail
      clear x0
      go_region_held3 (fun w' => w'.cell? ⟨w.heap.size, 1, none⟩ = some (.int .i64 d) ∧ w'.cell? ⟨w.heap.size, 2, none⟩ = some (.int .i64 c) ∧ Below w1.heap.size w1 w')
        (exact HK.out _ (by first | assumption | go_grown))
        (first
          | (go_at_call_of 22 (Go.Value.int .i64 (d)); (refine (l08Dir_any d _).mono ?_); rintro e wq ⟨rfl, hq⟩; have hr : Below w1.heap.size w1 wq := Below.trans (by first | assumption | go_grown) (hq.mono (Below.size (w := w1) (B := w1.heap.size) (by first | assumption | go_grown))); clear hq)
          | (go_at_call_of 23 (Go.Value.int .i64 (c)); (refine (l01Dec_any (n := c) (by constructor <;> omega) _).mono ?_); rintro e wq ⟨rfl, hq⟩; have hr : Below w1.heap.size w1 wq := Below.trans (by first | assumption | go_grown) (hq.mono (Below.size (w := w1) (B := w1.heap.size) (by first | assumption | go_grown))); clear hq))
      obtain ⟨w2, hw2⟩ : ∃ x, x = wq := ⟨_, rfl⟩
      subst hw2
      have HX2 := Lib.hid (keep_fwd hr HX1.out)
      have HB2 := Lib.hid (HB.out.trans (hr.mono HB.out.size))
      clear hr HK ad1 ad2 ad3 HX1 HB
      have hhd : passH (1) d c = s3 := HS3.out.symm
      obtain ⟨⟨x0, x1, x2, x3, x4, x5⟩, hxl⟩ := box6 HX2.out
      have HK := Lib.hid (fun w' (hw : Below w2.heap.size w2 w') => show w'.cell? ⟨w.heap.size, 3, none⟩ = some (.int .i64 r) ∧ w'.cell? ⟨w.heap.size, 4, none⟩ = some (.int .i64 f) ∧ w'.cell? ⟨w.heap.size, 5, none⟩ = some (.int .i64 n) ∧ Below w2.heap.size w2 w' from ⟨by rw [hw.cell (by simp only; omega)]; exact x3, by rw [hw.cell (by simp only; omega)]; exact x4, by rw [hw.cell (by simp only; omega)]; exact x5, hw⟩)
      clear x1 x2 x3 x4 x5
      obtain ⟨t0, ht0, hs0, had0⟩ := cat (x := s3) (y := { data := #[32, 114, 97, 99, 107, 32] }) (a := 28) (b := 6) z3 (by decide) (by decide)
      obtain ⟨t1, ht1, hs1, had1⟩ := cat (x := t0) (y := dec (r)) (a := 34) (b := 21) hs0 (dec_size (by constructor <;> omega)) (by decide)
      obtain ⟨t2, ht2, hs2, had2⟩ := cat (x := t1) (y := { data := #[32, 111, 112, 115, 32] }) (a := 55) (b := 5) hs1 (by decide) (by decide)
      obtain ⟨t3, ht3, hs3, had3⟩ := cat (x := t2) (y := dec (f)) (a := 60) (b := 21) hs2 (dec_size (by constructor <;> omega)) (by decide)
      obtain ⟨t4, ht4, hs4, had4⟩ := cat (x := t3) (y := { data := #[32, 116, 111, 32] }) (a := 81) (b := 4) hs3 (by decide) (by decide)
      obtain ⟨t5, ht5, hs5, had5⟩ := cat (x := t4) (y := dec (f + n - 1)) (a := 85) (b := 21) hs4 (dec_size (by constructor <;> omega)) (by decide)
      have HWR : Hid (IntKind.i64.wrap (IntKind.i64.wrap (f + n) - 1) = f + n - 1) := Lib.hid (by rw [IntWalk.i64_in (f + n) (by omega)]; exact IntWalk.i64_in _ (by omega))
      have HTX : Hid (t5 = passT (1) d c r f n) := Lib.hid (by rw [ht5, ht4, ht3, ht2, ht1, ht0]; unfold passT; rw [hhd])
      clear ht0 ht1 ht2 ht3 ht4 ht5 hs0 hs1 hs2 hs3 hs4 hs5 hhd
      go_wp2_with fail
      clear x0
      go_region_held3 (fun w' => w'.cell? ⟨w.heap.size, 3, none⟩ = some (.int .i64 r) ∧ w'.cell? ⟨w.heap.size, 4, none⟩ = some (.int .i64 f) ∧ w'.cell? ⟨w.heap.size, 5, none⟩ = some (.int .i64 n) ∧ Below w2.heap.size w2 w')
        (exact HK.out _ (by first | assumption | go_grown))
        (first
          | (go_at_call_of 23 (Go.Value.int .i64 (r)); (refine (l01Dec_any (n := r) (by constructor <;> omega) _).mono ?_); rintro e wq ⟨rfl, hq⟩; have hr : Below w2.heap.size w2 wq := Below.trans (by first | assumption | go_grown) (hq.mono (Below.size (w := w2) (B := w2.heap.size) (by first | assumption | go_grown))); clear hq)
          | (go_at_call_of 23 (Go.Value.int .i64 (f)); (refine (l01Dec_any (n := f) (by constructor <;> omega) _).mono ?_); rintro e wq ⟨rfl, hq⟩; have hr : Below w2.heap.size w2 wq := Below.trans (by first | assumption | go_grown) (hq.mono (Below.size (w := w2) (B := w2.heap.size) (by first | assumption | go_grown))); clear hq)
          | (go_at_call 23; rw [HWR.out]; (refine (l01Dec_any (n := f + n - 1) (by constructor <;> omega) _).mono ?_); rintro e wq ⟨rfl, hq⟩; have hr : Below w2.heap.size w2 wq := Below.trans (by first | assumption | go_grown) (hq.mono (Below.size (w := w2) (B := w2.heap.size) (by first | assumption | go_grown))); clear hq))
      go_wp2_with fail
      go_ret
      rw [HR.out, ← HTX.out]
      exact ⟨rfl, HB2.out.trans (hr.mono HB2.out.size)⟩
    · have hhd : passH (2) d c = { data := #[120, 102, 101, 114] } := rfl
      obtain ⟨⟨x0, x1, x2, x3, x4, x5⟩, hxl⟩ := box6 HX1.out
      have HK := Lib.hid (fun w' (hw : Below w1.heap.size w1 w') => show w'.cell? ⟨w.heap.size, 3, none⟩ = some (.int .i64 r) ∧ w'.cell? ⟨w.heap.size, 4, none⟩ = some (.int .i64 f) ∧ w'.cell? ⟨w.heap.size, 5, none⟩ = some (.int .i64 n) ∧ Below w1.heap.size w1 w' from ⟨by rw [hw.cell (by simp only; omega)]; exact x3, by rw [hw.cell (by simp only; omega)]; exact x4, by rw [hw.cell (by simp only; omega)]; exact x5, hw⟩)
      clear x1 x2 x3 x4 x5
      obtain ⟨t0, ht0, hs0, had0⟩ := cat (x := { data := #[120, 102, 101, 114] }) (y := { data := #[32, 114, 97, 99, 107, 32] }) (a := 4) (b := 6) (by decide) (by decide) (by decide)
      obtain ⟨t1, ht1, hs1, had1⟩ := cat (x := t0) (y := dec (r)) (a := 10) (b := 21) hs0 (dec_size (by constructor <;> omega)) (by decide)
      obtain ⟨t2, ht2, hs2, had2⟩ := cat (x := t1) (y := { data := #[32, 111, 112, 115, 32] }) (a := 31) (b := 5) hs1 (by decide) (by decide)
      obtain ⟨t3, ht3, hs3, had3⟩ := cat (x := t2) (y := dec (f)) (a := 36) (b := 21) hs2 (dec_size (by constructor <;> omega)) (by decide)
      obtain ⟨t4, ht4, hs4, had4⟩ := cat (x := t3) (y := { data := #[32, 116, 111, 32] }) (a := 57) (b := 4) hs3 (by decide) (by decide)
      obtain ⟨t5, ht5, hs5, had5⟩ := cat (x := t4) (y := dec (f + n - 1)) (a := 61) (b := 21) hs4 (dec_size (by constructor <;> omega)) (by decide)
      have HWR : Hid (IntKind.i64.wrap (IntKind.i64.wrap (f + n) - 1) = f + n - 1) := Lib.hid (by rw [IntWalk.i64_in (f + n) (by omega)]; exact IntWalk.i64_in _ (by omega))
      have HTX : Hid (t5 = passT (2) d c r f n) := Lib.hid (by rw [ht5, ht4, ht3, ht2, ht1, ht0]; unfold passT; rw [hhd])
      clear ht0 ht1 ht2 ht3 ht4 ht5 hs0 hs1 hs2 hs3 hs4 hs5 hhd
      go_wp2_with fail
      clear x0
      go_region_held3 (fun w' => w'.cell? ⟨w.heap.size, 3, none⟩ = some (.int .i64 r) ∧ w'.cell? ⟨w.heap.size, 4, none⟩ = some (.int .i64 f) ∧ w'.cell? ⟨w.heap.size, 5, none⟩ = some (.int .i64 n) ∧ Below w1.heap.size w1 w')
        (exact HK.out _ (by first | assumption | go_grown))
        (first
          | (go_at_call_of 23 (Go.Value.int .i64 (r)); (refine (l01Dec_any (n := r) (by constructor <;> omega) _).mono ?_); rintro e wq ⟨rfl, hq⟩; have hr : Below w1.heap.size w1 wq := Below.trans (by first | assumption | go_grown) (hq.mono (Below.size (w := w1) (B := w1.heap.size) (by first | assumption | go_grown))); clear hq)
          | (go_at_call_of 23 (Go.Value.int .i64 (f)); (refine (l01Dec_any (n := f) (by constructor <;> omega) _).mono ?_); rintro e wq ⟨rfl, hq⟩; have hr : Below w1.heap.size w1 wq := Below.trans (by first | assumption | go_grown) (hq.mono (Below.size (w := w1) (B := w1.heap.size) (by first | assumption | go_grown))); clear hq)
          | (go_at_call 23; rw [HWR.out]; (refine (l01Dec_any (n := f + n - 1) (by constructor <;> omega) _).mono ?_); rintro e wq ⟨rfl, hq⟩; have hr : Below w1.heap.size w1 wq := Below.trans (by first | assumption | go_grown) (hq.mono (Below.size (w := w1) (B := w1.heap.size) (by first | assumption | go_grown))); clear hq))
      go_wp2_with fail
      go_ret
      rw [HR.out, ← HTX.out]
      exact ⟨rfl, HB.out.trans (hr.mono HB.out.size)⟩
    · have hhd : passH (3) d c = { data := #[100, 114, 111, 112] } := rfl
      obtain ⟨⟨x0, x1, x2, x3, x4, x5⟩, hxl⟩ := box6 HX1.out
      have HK := Lib.hid (fun w' (hw : Below w1.heap.size w1 w') => show w'.cell? ⟨w.heap.size, 3, none⟩ = some (.int .i64 r) ∧ w'.cell? ⟨w.heap.size, 4, none⟩ = some (.int .i64 f) ∧ w'.cell? ⟨w.heap.size, 5, none⟩ = some (.int .i64 n) ∧ Below w1.heap.size w1 w' from ⟨by rw [hw.cell (by simp only; omega)]; exact x3, by rw [hw.cell (by simp only; omega)]; exact x4, by rw [hw.cell (by simp only; omega)]; exact x5, hw⟩)
      clear x1 x2 x3 x4 x5
      obtain ⟨t0, ht0, hs0, had0⟩ := cat (x := { data := #[100, 114, 111, 112] }) (y := { data := #[32, 114, 97, 99, 107, 32] }) (a := 4) (b := 6) (by decide) (by decide) (by decide)
      obtain ⟨t1, ht1, hs1, had1⟩ := cat (x := t0) (y := dec (r)) (a := 10) (b := 21) hs0 (dec_size (by constructor <;> omega)) (by decide)
      obtain ⟨t2, ht2, hs2, had2⟩ := cat (x := t1) (y := { data := #[32, 111, 112, 115, 32] }) (a := 31) (b := 5) hs1 (by decide) (by decide)
      obtain ⟨t3, ht3, hs3, had3⟩ := cat (x := t2) (y := dec (f)) (a := 36) (b := 21) hs2 (dec_size (by constructor <;> omega)) (by decide)
      obtain ⟨t4, ht4, hs4, had4⟩ := cat (x := t3) (y := { data := #[32, 116, 111, 32] }) (a := 57) (b := 4) hs3 (by decide) (by decide)
      obtain ⟨t5, ht5, hs5, had5⟩ := cat (x := t4) (y := dec (f + n - 1)) (a := 61) (b := 21) hs4 (dec_size (by constructor <;> omega)) (by decide)
      have HWR : Hid (IntKind.i64.wrap (IntKind.i64.wrap (f + n) - 1) = f + n - 1) := Lib.hid (by rw [IntWalk.i64_in (f + n) (by omega)]; exact IntWalk.i64_in _ (by omega))
      have HTX : Hid (t5 = passT (3) d c r f n) := Lib.hid (by rw [ht5, ht4, ht3, ht2, ht1, ht0]; unfold passT; rw [hhd])
      clear ht0 ht1 ht2 ht3 ht4 ht5 hs0 hs1 hs2 hs3 hs4 hs5 hhd
      go_wp2_with fail
      clear x0
      go_region_held3 (fun w' => w'.cell? ⟨w.heap.size, 3, none⟩ = some (.int .i64 r) ∧ w'.cell? ⟨w.heap.size, 4, none⟩ = some (.int .i64 f) ∧ w'.cell? ⟨w.heap.size, 5, none⟩ = some (.int .i64 n) ∧ Below w1.heap.size w1 w')
        (exact HK.out _ (by first | assumption | go_grown))
        (first
          | (go_at_call_of 23 (Go.Value.int .i64 (r)); (refine (l01Dec_any (n := r) (by constructor <;> omega) _).mono ?_); rintro e wq ⟨rfl, hq⟩; have hr : Below w1.heap.size w1 wq := Below.trans (by first | assumption | go_grown) (hq.mono (Below.size (w := w1) (B := w1.heap.size) (by first | assumption | go_grown))); clear hq)
          | (go_at_call_of 23 (Go.Value.int .i64 (f)); (refine (l01Dec_any (n := f) (by constructor <;> omega) _).mono ?_); rintro e wq ⟨rfl, hq⟩; have hr : Below w1.heap.size w1 wq := Below.trans (by first | assumption | go_grown) (hq.mono (Below.size (w := w1) (B := w1.heap.size) (by first | assumption | go_grown))); clear hq)
          | (go_at_call 23; rw [HWR.out]; (refine (l01Dec_any (n := f + n - 1) (by constructor <;> omega) _).mono ?_); rintro e wq ⟨rfl, hq⟩; have hr : Below w1.heap.size w1 wq := Below.trans (by first | assumption | go_grown) (hq.mono (Below.size (w := w1) (B := w1.heap.size) (by first | assumption | go_grown))); clear hq))
      go_wp2_with fail
      go_ret
      rw [HR.out, ← HTX.out]
      exact ⟨rfl, HB.out.trans (hr.mono HB.out.size)⟩
end Go.Proofs.YtpiodiliifnckaaDoor
