/-
  Contracts: ProgramText of the program and of the reference.
-/
import Derived.Test.YtgmppfhokfifgaaGreatDoorOpt
import Derived.Test.YtgmppfhokfifgaaGreatDoorOps
import Derived.Test.YtgmppfhokfifgaaGreatDoorOwz
import Derived.Test.YtgmppfhokfifgaaGreatDoorPo3
import Derived.Test.YtgmppfhokfifgaaGreatDoorGsh
namespace Go.Proofs.YtgmppfhokfifgaaGreatDoor
set_option maxRecDepth 10000
open Go.RowKit Go.Sort

def opT (o : List Int) : ByteArray := opTx (gi o 0) (gi o 1) (gi o 2) (gi o 3) (gi o 4) (gi o 5) (gi o 6) (gi o 7)
def nlB : ByteArray := { data := #[10] }
/-- The text of a program: its first line, and the lines of its first operations. -/
def hdS (n : Int) : ByteArray := ({ data := #[119, 105, 100, 116, 104, 32] } ++ dec n) ++ nlB
def prU (n : Int) (os : List (List Int)) : Nat → ByteArray
  | 0 => hdS n
  | k + 1 => prU n os k ++ (opT (gl os k) ++ nlB)
def prT (n : Int) (os : List (List Int)) : ByteArray := prU n os os.length
def prR (n : Int) (os : List (List Int)) : ByteArray := if okOps n os then prT n os else { data := #[] }
theorem opTx_size {k d fb fa tb ta c r : Int} (h : vOp k d fb fa tb ta c r = true) : (opTx k d fb fa tb ta c r).size ≤ 186 := by
  obtain ⟨n, rfl, -, -, ⟨ia, ja, ca, ra⟩, -, -⟩ := op_cases h
  have hl : (opW (n : Int) d fb fa tb ta c r).length ≤ 6 := by
    unfold opW
    simp only [List.length_cons, List.length_append]
    have h1 : (if d = 0 then [] else [dirS d]).length ≤ 1 := by split <;> simp
    have h2 : (if fb = 0 then [] else [ndS fb fa]).length ≤ 1 := by split <;> simp
    have h3 : (if tb = 0 then [] else [ndS tb ta]).length ≤ 1 := by split <;> simp
    have h4 : (if c = 0 then [] else [dec c]).length ≤ 1 := by split <;> simp
    have h5 : (if (n : Int) = 7 then [dec r] else []).length ≤ 1 := by split <;> simp
    omega
  have hs : ∀ x ∈ opW (n : Int) d fb fa tb ta c r, x.size ≤ 30 := by
    intro x hx
    unfold opW at hx
    simp only [List.mem_cons, List.mem_append] at hx
    rcases hx with rfl | (((hx | hx) | hx) | hx) | hx
    · exact Nat.le_trans (kw_size _) (by decide)
    · split at hx
      · cases hx
      · simp only [List.mem_singleton] at hx; subst hx; exact Nat.le_trans (dirS_size _) (by decide)
    · split at hx
      · cases hx
      · simp only [List.mem_singleton] at hx; subst hx; exact Nat.le_trans (ndS_size ia) (by decide)
    · split at hx
      · cases hx
      · simp only [List.mem_singleton] at hx; subst hx; exact Nat.le_trans (ndS_size ja) (by decide)
    · split at hx
      · cases hx
      · simp only [List.mem_singleton] at hx; subst hx; exact Nat.le_trans (dec_size ca) (by decide)
    · split at hx
      · simp only [List.mem_singleton] at hx; subst hx; exact Nat.le_trans (dec_size ra) (by decide)
      · cases hx
  have := join_len _ hs
  show (Lib.join ((opW (n : Int) d fb fa tb ta c r).map (·.data.toList)) [32]).toArray.size ≤ 186
  rw [List.size_toArray]
  omega
theorem hdS_size {n : Int} (h : I64 n) : (hdS n).size ≤ 28 := by
  unfold hdS
  rw [ByteArray.size_append, ByteArray.size_append]
  have h1 := dec_size h
  have h2 : (ByteArray.mk #[119, 105, 100, 116, 104, 32]).size = 6 := rfl
  have h3 : nlB.size = 1 := rfl
  omega
theorem prU_size {n : Int} {os : List (List Int)} (h : I64 n) (ho : ∀ o ∈ os, opB o = true) : ∀ k, k ≤ os.length → (prU n os k).size ≤ 28 + 187 * k
  | 0, _ => hdS_size h
  | k + 1, hk => by
    have ih := prU_size h ho k (by omega)
    have h2 := opTx_size (ho _ (gl_mem (show k < os.length by omega)))
    have h3 : nlB.size = 1 := rfl
    simp only [prU, ByteArray.size_append, opT]
    omega
theorem okOps_bd {n : Int} {os : List (List Int)} (h : okOps n os = true) : (1 ≤ n ∧ n ≤ 24) ∧ os.length ≤ 1500 ∧ ∀ o ∈ os, opB o = true := by
  simp only [okOps, Bool.and_eq_true, decide_eq_true_eq, inR_iff, List.all_eq_true] at h
  exact ⟨h.1.1, h.1.2, fun o ho => (h.2 o ho).1⟩
theorem strCells_app (a b : ByteArray) : Lib.strCells (a ++ b) = Lib.strCells a ++ Lib.strCells b := by
  simp [Lib.strCells]
theorem isB_fwd {T e : TypeId} {B b : Nat} {bs : List Value} {w w' : World} (h : Lib.IsBuilder T e B b bs w) (hb : Below w.heap.size w w') : Lib.IsBuilder T e B b bs w' := by
  have key : ∀ p, Lib.BuilderAt T e B b p bs w → Lib.BuilderAt T e B b p bs w' := fun p ⟨h1, v, h2, h3, h4⟩ =>
    ⟨h1, v, (hb.block b (Array.getElem?_eq_some_iff.1 h2).1).trans h2, ((OwR.of_own h3).keep fun k _ hk => hb.block k hk).1, h4⟩
  rcases h with h | h
  · exact .inl (key _ h)
  · exact .inr (key _ h)
theorem Builder_Write (B b : Nat) (bs : List Value) (s : ByteArray) (w : World) (h : Lib.IsBuilder 61 5 B b bs w) (hlen : bs.length + s.size ≤ 140737488355328) (hBw : B ≤ w.heap.size) :
    Calls Tryz.prog 29 #[.pointer (some ⟨b, 0, none⟩), .string s] w fun e w' => (∃ r, e = .returned r) ∧ Lib.IsBuilder 61 5 B b (bs ++ Lib.strCells s) w' ∧ Below B w w' :=
  (Go.Proofs.Any.Builder_WriteString (P := Tryz.prog) { Tryz.lays156 with } Tryz.Builder_Extra_156 B b bs s w h hlen hBw).mono fun _ _ ⟨he, hb, hq⟩ => ⟨⟨_, he⟩, .inr hb, hq⟩
set_option maxHeartbeats 6400000 in
theorem impl_ProgramText_any {n : Int} {v : Value} {os : List (List Int)} {B : Nat} {w : World} (h : SlR 8 w B v os) (hB : B ≤ w.heap.size) (ht : Tab w) :
    Calls Tryz.prog 12 #[.int .i64 n, v] w fun e w' => e = .returned (.string (prR n os)) ∧ Below w.heap.size w w' := by
  obtain ⟨A, c, rfl, hl, hm, -⟩ := id h
  unfold maxLen at hm
  have HV := Lib.hid (validFor_any n _ os _ w h hB)
  have H := Lib.hid h
  have HT := Lib.hid ht
  clear h ht
  cases hk : okOps n os
  · have HR : Hid (prR n os = { data := #[] }) := Lib.hid (by rw [prR, hk]; rfl)
    rw [hk] at HV
    clear hk
    go_enter Tryz.func12, Tryz.ntmps12
    go_wp2_with fail
    refine HV.out.mono ?_
    rintro e w1 ⟨rfl, hq⟩
    have HQ := Lib.hid hq
    clear hq
    go_wp2_with fail
    go_ret
    rw [HR.out]
    exact ⟨rfl, HQ.out⟩
  · have HR : Hid (prR n os = prT n os) := Lib.hid (by rw [prR, hk]; rfl)
    obtain ⟨⟨n0, n1⟩, hl15, hop⟩ := okOps_bd hk
    have HOP := Lib.hid hop
    have HSZ := Lib.hid (fun k hk => prU_size (n := n) (os := os) (by constructor <;> omega) hop k hk)
    rw [hk] at HV
    clear hk hop
    go_enter Tryz.func12, Tryz.ntmps12
    go_wp2_with fail
    refine HV.out.mono ?_
    rintro e w1 ⟨rfl, hq⟩
    have hz1 := hq.size
    have H1 := Lib.hid (H.out.below hq hB)
    have hB1 : B ≤ w1.heap.size := Nat.le_trans hB hz1
    have HB1 := Lib.hid hq
    have ha := al1 w1 (.cells #[.pointer none, .slice none 0 0] 61)
    have HI := Lib.hid (Lib.fresh_isBuilder 61 5 w1)
    have HT1 := Lib.hid (HT.out.below hq)
    have HT2 := Lib.hid ((HT.out.below hq).below ha)
    have HA := Lib.hid ha
    obtain ⟨s1, hs1, z1, ad1⟩ := cat (x := { data := #[119, 105, 100, 116, 104, 32] }) (y := dec n) (a := 6) (b := 21) (by decide) (dec_size (by constructor <;> omega)) (by decide)
    obtain ⟨s2, hs2, z2, ad2⟩ := cat (x := s1) (y := { data := #[10] }) (a := 27) (b := 1) z1 (by decide) (by decide)
    have HS2 : Hid (s2 = prU n os 0) := Lib.hid (by rw [hs2, hs1]; rfl)
    clear hq ha hs1 hs2 z1 HV H HT
    go_wp2_with fail
    refine (Decimal_any (n := n) (by constructor <;> omega) HT2.out).mono ?_
    rintro e w2 ⟨rfl, hq⟩
    have HI2 := Lib.hid (isB_fwd HI.out hq)
    have HB2 := Lib.hid (HA.out.trans (hq.mono HA.out.size))
    have HT3 := Lib.hid (HT2.out.below hq)
    clear hq HI HA HT2
    go_wp2_with fail
    refine (Builder_Write w1.heap.size w1.heap.size [] s2 w2 HI2.out (by simp; omega) HB2.out.size).mono ?_
    rintro e w3 ⟨⟨r3, rfl⟩, hI, hq⟩
    rw [HS2.out, List.nil_append] at hI
    have HI3 := Lib.hid hI
    have HB3 := Lib.hid (HB2.out.trans hq)
    have HTB : Hid (∀ w', Below w1.heap.size w1 w' → Tab w') := Lib.hid fun w' hb => HT1.out.below hb
    clear hI hq HI2 HB2 HT3 HS2 ad1 ad2 z2
    go_wp2_with fail
    go_loopw [20] (fun i wr => ∃ k : Nat, k ≤ os.length ∧ i = .int .i64 k ∧ Lib.IsBuilder 61 5 w1.heap.size w1.heap.size (Lib.strCells (prU n os k)) wr ∧ Below w1.heap.size w1 wr) (fun i _ => os.length - (intOf i).toNat)
    case atStart => exact ⟨0, Nat.zero_le _, rfl, HI3.out, HB3.out⟩
    case round =>
      obtain ⟨k, hk, rfl, hI, hb⟩ := hrel
      have HI := Lib.hid hI
      have HB := Lib.hid hb
      have hzr := hb.size
      clear hI hb HI3 HB3
      by_cases hlt : k < os.length
      · have hltI : (k : Int) < (os.length : Int) := by omega
        obtain ⟨pb, po, rfl⟩ := H1.out.addr (by omega)
        obtain ⟨-, hpl, q0, q1, q2, q3, q4, q5, q6, q7⟩ := (H1.out.below HB.out hB1).opAt hlt
        have hv : vOp (gi (gl os k) 0) (gi (gl os k) 1) (gi (gl os k) 2) (gi (gl os k) 3) (gi (gl os k) 4) (gi (gl os k) 5) (gi (gl os k) 6) (gi (gl os k) 7) = true := HOP.out _ (gl_mem hlt)
        have hsz := opTx_size hv
        have HO := Lib.hid (fun (W : World) (hW : Tab W) => opText_any hv hW)
        have ha := al1 wr (.cells #[.int .i64 (gi (gl os k) 0), .int .i64 (gi (gl os k) 1), .int .i64 (gi (gl os k) 2), .int .i64 (gi (gl os k) 3), .int .i64 (gi (gl os k) 4), .int .i64 (gi (gl os k) 5), .int .i64 (gi (gl os k) 6), .int .i64 (gi (gl os k) 7)] 38)
        have HA := Lib.hid ha
        have HTA := Lib.hid (HTB.out _ (HB.out.trans (ha.mono hzr)))
        obtain ⟨s1, hs1, z1, ad1⟩ := cat (x := opTx (gi (gl os k) 0) (gi (gl os k) 1) (gi (gl os k) 2) (gi (gl os k) 3) (gi (gl os k) 4) (gi (gl os k) 5) (gi (gl os k) 6) (gi (gl os k) 7)) (y := { data := #[10] }) (a := 186) (b := 1) hsz (by decide) (by decide)
        have HS1 : Hid (prU n os k ++ s1 = prU n os (k + 1)) := Lib.hid (by rw [hs1]; rfl)
        have hps := HSZ.out k hk
        clear hs1 hv hsz ha
        generalize gi (gl os k) 0 = o0 at *
        generalize gi (gl os k) 1 = o1 at *
        generalize gi (gl os k) 2 = o2 at *
        generalize gi (gl os k) 3 = o3 at *
        generalize gi (gl os k) 4 = o4 at *
        generalize gi (gl os k) 5 = o5 at *
        generalize gi (gl os k) 6 = o6 at *
        generalize gi (gl os k) 7 = o7 at *
        go_wp2_with fail
        clear q0 q1 q2 q3 q4 q5 q6 q7
        refine (HO.out _ HTA.out).mono ?_
        rintro e w4 ⟨rfl, hq⟩
        have HI4 := Lib.hid (isB_fwd HI.out (HA.out.trans (hq.mono HA.out.size)))
        have HB4 := Lib.hid (HB.out.trans ((HA.out.trans (hq.mono HA.out.size)).mono hzr))
        clear hq HI HA HB HTA HO
        go_wp2_with fail
        refine (Builder_Write w1.heap.size w1.heap.size _ s1 w4 HI4.out (by rw [Lib.strCells_length]; omega) HB4.out.size).mono ?_
        rintro e w5 ⟨⟨r5, rfl⟩, hI, hq⟩
        rw [← strCells_app, HS1.out] at hI
        have HI5 := Lib.hid hI
        have HB5 := Lib.hid (HB4.out.trans hq)
        clear hI hq HI4 HB4
        go_wp2_with fail
        go_roundw
        case rel => exact ⟨k + 1, by omega, by go_num, HI5.out, HB5.out⟩
        case measure => simp [intOf]; omega
      · obtain rfl : k = os.length := by omega
        go_wp2_with fail
        refine (Tryz.Builder_String_any w1.heap.size w1.heap.size (prU n os os.length).data.toList wr HI.out HB.out.size).mono ?_
        rintro e w6 ⟨rfl, hq⟩
        go_wp2_with fail
        go_ret
        rw [HR.out]
        exact ⟨rfl, HB1.out.trans ((HB.out.trans hq).mono hz1)⟩
end Go.Proofs.YtgmppfhokfifgaaGreatDoor
