/-
  Contracts: the laws' helpers on descriptions of loops and on carriers (copies, comparisons, marks).
-/
import Derived.Test.YtbefioljddhhpaaMc3
import Derived.Lib.QuietBelow
namespace Go.Proofs.Ytbefioljddhhpaa
set_option maxRecDepth 10000
open Go.RowKit

def Five (L : List (List Int)) : Prop := ∀ o ∈ L, 5 ≤ o.length
theorem list5 {o : List Int} (h : 5 ≤ o.length) : gi o 0 :: gi o 1 :: gi o 2 :: gi o 3 :: gi o 4 :: o.drop 5 = o := by
  match o, h with
  | a0 :: a1 :: a2 :: a3 :: a4 :: r, _ => rfl
theorem countFrom_cons (c : Int) (n : Nat) : countFrom c (n + 1) = c :: countFrom (c + 1) n := by
  induction n with
  | zero => simp [countFrom]
  | succ n ih =>
    rw [countFrom, ih, countFrom, List.cons_append]
    congr 3
    push_cast
    omega
theorem countFrom_5 (c : Int) {n : Nat} (h : 5 ≤ n) : countFrom c n = c :: (c + 1) :: (c + 2) :: (c + 3) :: (c + 4) :: countFrom (c + 5) (n - 5) := by
  obtain ⟨m, rfl⟩ : ∃ m, n = m + 5 := ⟨n - 5, by omega⟩
  rw [show m + 5 - 5 = m by omega, countFrom_cons, countFrom_cons, countFrom_cons, countFrom_cons, countFrom_cons]
  simp only [Int.add_assoc, Int.reduceAdd]
def z5 : List Int := [0, 0, 0, 0, 0]
def zc : List Value := [.int .i64 0, .int .i64 0, .int .i64 0, .int .i64 0, .int .i64 0, .slice none 0 0]
def filledI (L : List (List Int)) (k : Nat) : List (List Int) := L.take k ++ List.replicate (L.length - k) z5
theorem filledI_len (L : List (List Int)) (k : Nat) (h : k ≤ L.length) : (filledI L k).length = L.length := by simp [filledI]; omega
theorem filledI_zero (L : List (List Int)) : filledI L 0 = List.replicate L.length z5 := by simp [filledI]
theorem filledI_all (L : List (List Int)) : filledI L L.length = L := by simp [filledI]
theorem filledI_set (L : List (List Int)) (k : Nat) (h : k < L.length) {o : List Int} (ho : o = gl L k) : (filledI L k).set k o = filledI L (k + 1) := by
  subst ho
  unfold filledI
  have hl : (L.take k).length = k := by simp; omega
  rw [List.set_append_right _ _ (by omega), hl, Nat.sub_self]
  obtain ⟨m, hm⟩ : ∃ m, L.length - k = m + 1 := ⟨L.length - k - 1, by omega⟩
  rw [hm, List.replicate_succ, List.set_cons_zero, take_gl h, List.append_assoc, show L.length - (k + 1) = m from by omega]
  rfl
theorem map_flat_rep {α β : Type} (f : α → β) (n : Nat) (r : List α) : (List.replicate n r).flatten.map f = (List.replicate n (r.map f)).flatten := by
  induction n with
  | zero => simp
  | succ n ih => simp [List.replicate_succ, ih]
theorem infC_made (n k : Nat) (c : Cl) (h : (infC (List.replicate n z5))[k]? = some c) : ((List.replicate n zc).flatten.map Cl.p)[k]? = some c ∨ (((List.replicate n zc).flatten.map Cl.p)[k]? = some (Cl.p (.slice none 0 0)) ∧ c = Cl.s []) := by
  have hk : k < n * 6 := by
    have := (List.getElem?_eq_some_iff.1 h).1
    rw [infC_len] at this
    simpa using this
  have e : k = k / 6 * 6 + k % 6 := by omega
  have hm : k % 6 < 6 := Nat.mod_lt _ (by omega)
  have hd : k / 6 < n := by omega
  rw [map_flat_rep]
  have h6 : ∀ r ∈ List.replicate n (zc.map Cl.p), r.length = 6 := fun r hr => by rw [(List.mem_replicate.1 hr).2]; rfl
  rw [e, infC_get (by simpa using hd) hm, gl_eq (by simpa using hd), List.getElem_replicate] at h
  have g := flat_getG h6 (k := k / 6) (j := k % 6) (by simpa using hd) hm
  rw [← e, List.getElem_replicate] at g
  rw [g]
  generalize k % 6 = j at *
  match j, hm with
  | 0, _ => exact .inl h
  | 1, _ => exact .inl h
  | 2, _ => exact .inl h
  | 3, _ => exact .inl h
  | 4, _ => exact .inl h
  | 5, _ => exact .inr ⟨rfl, (Option.some.inj h).symm⟩
theorem infC_made_len (n : Nat) : (infC (List.replicate n z5)).length = ((List.replicate n zc).flatten.map Cl.p).length := by
  rw [infC_len, List.length_map, flat_lenG (z := 6) (fun r hr => by rw [(List.mem_replicate.1 hr).2]; rfl)]; simp
theorem carC_made (n : Nat) : carC (List.replicate n (false, 0)) = (List.replicate n [Value.bool false, .int .i64 0]).flatten.map Cl.p := by
  rw [map_flat_rep]; unfold carC; rw [List.map_replicate]; rfl
theorem info_info : (Try.prog.info? 80).map (fun i => (i.zero, i.size, i.bytes)) = some (some (.agg #[.int .i64 0, .int .i64 0, .int .i64 0, .int .i64 0, .int .i64 0, .slice none 0 0]), 6, 64) := by kernel_rfl
theorem car_info : (Try.prog.info? 78).map (fun i => (i.zero, i.size, i.bytes)) = some (some (.agg #[.bool false, .int .i64 0]), 2, 16) := by kernel_rfl
set_option maxHeartbeats 1600000 in
theorem toInfs_any {v : Value} {L : List (List Int)} {B : Nat} {w : World} (h : SlF w B v L) (hB : B ≤ w.heap.size) (h5 : Five L) (hsz : L.length + lenSS (prs L) ≤ 1048576) :
    Calls Try.prog 65 #[v] w fun e w' => ∃ r, e = .returned r ∧ OwC 80 6 w' (Iv w.heap.size w'.heap.size) r L.length (infC L) ∧ Below w.heap.size w w' := by
  obtain ⟨A, c, rfl, hl, hm, hc⟩ := h.cells
  have HC := Lib.hid hc
  have H5 := Lib.hid h5
  clear hc h5 h
  obtain ⟨i0, hi, hz0, hz1, hz2⟩ := info_parts info_info
  have HI := Lib.hid hi
  have HZ := Lib.hid hz0
  have hpl := prs_len L
  have HPL := Lib.hid hpl
  clear hi hz0 hpl
  go_enter Try.func65, Try.ntmps65
  go_wp2_with (at_make; refine wpList_make_full _ rfl _ _ 24 rfl w.heap.size 80 i0 (.agg #[.int .i64 0, .int .i64 0, .int .i64 0, .int .i64 0, .int .i64 0, .slice none 0 0]) 6 Try.underlying24 HI.out HZ.out hz1 _ _ _ _ L.length rfl rfl rfl rfl (by rw [hz2]; omega) (by unfold maxLen; omega) (Nat.le_refl _) ?_)
  intro w1 hown hg1
  have hO : OwC 80 6 w1 (Iv w.heap.size w1.heap.size) (.slice (some ⟨w.heap.size, 0, none⟩) L.length L.length) L.length (infC (filledI L 0)) := by
    rw [filledI_zero]
    have hown2 : w1.ownsRow w.heap.size 80 6 (.slice (some ⟨w.heap.size, 0, none⟩) L.length L.length) L.length (List.replicate L.length zc).flatten := by
      have e := made_gen (cells := #[Value.int .i64 0, .int .i64 0, .int .i64 0, .int .i64 0, .int .i64 0, .slice none 0 0]) (z := 6) rfl (by omega) L.length
      rw [show zc = (#[Value.int .i64 0, .int .i64 0, .int .i64 0, .int .i64 0, .int .i64 0, .slice none 0 0]).toList from rfl, ← e]
      exact hown
    refine (OwC.plain hown2 ?_ fun g hg => ⟨(hown2.lt g hg).1, (hown2.lt g hg).2⟩).nilS _ (infC_made_len _) fun k c hkc => infC_made _ k c hkc
    rw [flat_lenG (z := 6) (fun r hr => by rw [(List.mem_replicate.1 hr).2]; rfl)]; simp
  have hb1 : Below w.heap.size w w1 := (Below.refl _ _).grown hg1 (Nat.le_refl _) (by simp)
  clear hown hg1
  go_wp2
  go_loopw [4] (fun i wr => ∃ k : Nat, k ≤ L.length ∧ i = .int .i64 k ∧ OwC 80 6 wr (Iv w.heap.size wr.heap.size) (.slice (some ⟨w.heap.size, 0, none⟩) L.length L.length) L.length (infC (filledI L k)) ∧ Below w.heap.size w wr) (fun i _ => L.length - (intOf i).toNat)
  case atStart => exact ⟨0, Nat.zero_le _, rfl, hO, hb1⟩
  case round =>
    obtain ⟨k, hk, rfl, hO, hb⟩ := hrel
    by_cases hlt : k < L.length
    · obtain ⟨b, off, rfl, hbB, hcell⟩ := HC.out (by omega)
      obtain ⟨hc5, u, q5, s1⟩ := hcell k hlt
      obtain ⟨q0, q1, q2, q3, q4⟩ := five_of (fun j hj => (show wr.cell? ⟨b, off + k * 6 + j, none⟩ = some (.int .i64 (gi (gl L k) j)) by rw [hb.cell (by simp only; omega)]; exact hc5 j hj))
      have q5 : wr.cell? ⟨b, off + k * 6 + 5, none⟩ = some u := by rw [hb.cell (by simp only; omega)]; exact q5
      have s1 := s1.below hb hB
      have hz := hb.size
      have hrow := lenSS_row (xss := prs L) (k := k) (by rw [HPL.out]; exact hlt)
      rw [prs_gl hlt] at hrow
      have HL5 := Lib.hid (list5 (H5.out _ (gl_mem hlt)))
      have hfl := filledI_len L k hk
      clear hcell hc5
      generalize (gl L k).drop 5 = ps at *
      go_wp2_with fail
      refine (toInf_any _ _ _ _ _ _ _ _ _ s1 (by omega) (by omega)).mono ?_
      rintro e w2 ⟨r2, rfl, ho2, hq⟩
      obtain ⟨A2, c2, rfl, -⟩ := id (ho2.sl (Nat.le_refl _))
      have hO2 := hO.below hq (Nat.le_refl _)
      obtain ⟨hcs, W, hW, hO3, hch⟩ := OwC.setI hO2 k (by rw [hfl]; exact hlt) ho2 hq.size (gi (gl L k) 0) (gi (gl L k) 1) (gi (gl L k) 2) (gi (gl L k) 3) (gi (gl L k) 4)
      obtain ⟨x0, t0, u0⟩ := hcs 0 (by omega)
      obtain ⟨x1, t1, u1⟩ := hcs 1 (by omega)
      obtain ⟨x2, t2, u2⟩ := hcs 2 (by omega)
      obtain ⟨x3, t3, u3⟩ := hcs 3 (by omega)
      obtain ⟨x4, t4, u4⟩ := hcs 4 (by omega)
      obtain ⟨x5, t5, u5⟩ := hcs 5 (by omega)
      rw [Nat.add_zero] at t0 u0
      have HW := Lib.hid hW
      have HO3 := Lib.hid hO3
      have HCH := Lib.hid hch
      have HB2 := Lib.hid (hb.trans (hq.mono hz))
      have HZQ := Lib.hid (Nat.le_trans hz hq.size)
      clear hcs hW hO3 hch hO2 hO hq hb ho2
      go_wp2_with fail
      go_roundw
      case rel =>
        rw [← HW.out]
        have h3 := HO3.out
        rw [HL5.out, filledI_set L k hlt rfl] at h3
        exact ⟨k + 1, by omega, by go_num, h3, HB2.out.trans (HCH.out.below (Nat.le_refl _) HZQ.out)⟩
      case measure => simp [intOf]; omega
    · obtain rfl : k = L.length := by omega
      rw [filledI_all] at hO
      go_wp2
      go_ret
      exact ⟨_, rfl, hO, hb⟩
theorem toCar_any (a : Bool) (b : Int) (w : World) :
    Calls Try.prog 98 #[.agg #[.bool a, .int .i64 b]] w fun e w' => e = .returned (.agg #[.bool a, .int .i64 b]) ∧ Below w.heap.size w w' := by
  go_enter Try.func98, Try.ntmps98
  go_wp2
  go_returns
  exact ⟨rfl, by go_grown⟩
def filledK (D : List (Bool × Int)) (k : Nat) : List (Bool × Int) := D.take k ++ List.replicate (D.length - k) (false, 0)
theorem filledK_len (D : List (Bool × Int)) (k : Nat) (h : k ≤ D.length) : (filledK D k).length = D.length := by simp [filledK]; omega
theorem filledK_zero (D : List (Bool × Int)) : filledK D 0 = List.replicate D.length (false, 0) := by simp [filledK]
theorem filledK_all (D : List (Bool × Int)) : filledK D D.length = D := by simp [filledK]
theorem filledK_set (D : List (Bool × Int)) (k : Nat) (h : k < D.length) : (filledK D k).set k ((gc D k).1, (gc D k).2) = filledK D (k + 1) := by
  unfold filledK
  have hl : (D.take k).length = k := by simp; omega
  rw [List.set_append_right _ _ (by omega), hl, Nat.sub_self]
  obtain ⟨m, hm⟩ : ∃ m, D.length - k = m + 1 := ⟨D.length - k - 1, by omega⟩
  rw [hm, List.replicate_succ, List.set_cons_zero, List.take_succ_eq_append_getElem h, List.append_assoc, show D.length - (k + 1) = m from by omega, gc_eq h]
  rfl
set_option maxHeartbeats 1600000 in
theorem toCars_any {v : Value} {D : List (Bool × Int)} {B : Nat} {w : World} (h : SlK w B v D) (hB : B ≤ w.heap.size) (hsz : D.length ≤ 1048576) :
    Calls Try.prog 64 #[v] w fun e w' => ∃ r, e = .returned r ∧ OwC 78 2 w' (Iv w.heap.size w'.heap.size) r D.length (carC D) ∧ Below w.heap.size w w' := by
  obtain ⟨A, c, rfl, hl, hm, hc⟩ := h.cells
  have HC := Lib.hid hc
  clear hc h
  obtain ⟨i0, hi, hz0, hz1, hz2⟩ := info_parts car_info
  have HI := Lib.hid hi
  have HZ := Lib.hid hz0
  clear hi hz0
  go_enter Try.func64, Try.ntmps64
  go_wp2_with (at_make; refine wpList_make_full _ rfl _ _ 23 rfl w.heap.size 78 i0 (.agg #[.bool false, .int .i64 0]) 2 Try.underlying23 HI.out HZ.out hz1 _ _ _ _ D.length rfl rfl rfl rfl (by rw [hz2]; omega) (by unfold maxLen; omega) (Nat.le_refl _) ?_)
  intro w1 hown hg1
  have hO : OwC 78 2 w1 (Iv w.heap.size w1.heap.size) (.slice (some ⟨w.heap.size, 0, none⟩) D.length D.length) D.length (carC (filledK D 0)) := by
    rw [filledK_zero, carC_made]
    have hown2 : w1.ownsRow w.heap.size 78 2 (.slice (some ⟨w.heap.size, 0, none⟩) D.length D.length) D.length (List.replicate D.length [Value.bool false, .int .i64 0]).flatten := by
      have e := made_gen (cells := #[Value.bool false, .int .i64 0]) (z := 2) rfl (by omega) D.length
      rw [show [Value.bool false, .int .i64 0] = (#[Value.bool false, .int .i64 0]).toList from rfl, ← e]
      exact hown
    refine OwC.plain hown2 ?_ fun g hg => ⟨(hown2.lt g hg).1, (hown2.lt g hg).2⟩
    rw [flat_lenG (z := 2) (fun r hr => by rw [(List.mem_replicate.1 hr).2]; rfl)]; simp
  have hb1 : Below w.heap.size w w1 := (Below.refl _ _).grown hg1 (Nat.le_refl _) (by simp)
  clear hown hg1
  go_wp2
  go_loopw [4] (fun i wr => ∃ k : Nat, k ≤ D.length ∧ i = .int .i64 k ∧ OwC 78 2 wr (Iv w.heap.size wr.heap.size) (.slice (some ⟨w.heap.size, 0, none⟩) D.length D.length) D.length (carC (filledK D k)) ∧ Below w.heap.size w wr) (fun i _ => D.length - (intOf i).toNat)
  case atStart => exact ⟨0, Nat.zero_le _, rfl, hO, hb1⟩
  case round =>
    obtain ⟨k, hk, rfl, hO, hb⟩ := hrel
    by_cases hlt : k < D.length
    · obtain ⟨b, off, rfl, hbB, hcell⟩ := HC.out (by omega)
      obtain ⟨q0, q1⟩ := hcell k hlt
      have q0 : wr.cell? ⟨b, off + k * 2, none⟩ = some (.bool (gc D k).1) := by rw [hb.cell (by simp only; omega)]; exact q0
      have q1 : wr.cell? ⟨b, off + k * 2 + 1, none⟩ = some (.int .i64 (gc D k).2) := by rw [hb.cell (by simp only; omega)]; exact q1
      have hz := hb.size
      have hfl := filledK_len D k hk
      have HST := Lib.hid (filledK_set D k hlt)
      generalize (gc D k).1 = g1 at *
      generalize (gc D k).2 = g2 at *
      clear hcell
      go_wp2_with fail
      refine (toCar_any _ _ _).mono ?_
      rintro e w2 ⟨rfl, hq⟩
      have hO2 := (hO.below hq (Nat.le_refl _)).mono (S' := Iv w.heap.size w2.heap.size) fun b hb' => ⟨hb'.1, Nat.lt_of_lt_of_le hb'.2 hq.size⟩
      obtain ⟨hcs, W, hW, hO3, hch⟩ := OwC.setK hO2 k (by rw [hfl]; exact hlt) g1 g2
      obtain ⟨x0, t0, u0⟩ := hcs 0 (by omega)
      obtain ⟨x1, t1, u1⟩ := hcs 1 (by omega)
      rw [Nat.add_zero] at t0 u0
      have HW := Lib.hid hW
      have HO3 := Lib.hid hO3
      have HCH := Lib.hid (chgS_iv hch)
      have HB2 := Lib.hid (hb.trans (hq.mono hz))
      have HZQ := Lib.hid (Nat.le_trans hz hq.size)
      clear hcs hW hO3 hch hO2 hO hq hb
      go_wp2_with fail
      go_roundw
      case rel =>
        rw [← HW.out]
        have h3 := HO3.out
        rw [HST.out] at h3
        exact ⟨k + 1, by omega, by go_num, h3.mono fun b hb' => ⟨hb'.1, Nat.lt_of_lt_of_le hb'.2 HCH.out.size⟩, HB2.out.trans (HCH.out.below (Nat.le_refl _) HZQ.out)⟩
      case measure => simp [intOf]; omega
    · obtain rfl : k = D.length := by omega
      rw [filledK_all] at hO
      go_wp2
      go_ret
      exact ⟨_, rfl, hO, hb⟩
theorem eqCar_yes (a : Bool) (b : Int) (w : World) :
    Calls Try.prog 95 #[.agg #[.bool a, .int .i64 b], .agg #[.bool a, .int .i64 b]] w fun e w' => e = .returned (.bool true) ∧ Below w.heap.size w w' := by
  have t1 : (a != a) = false := by simp
  go_enter Try.func95, Try.ntmps95
  go_wp2
  go_ret
  exact ⟨rfl, al2 _ _ _⟩
set_option maxHeartbeats 1600000 in
theorem eqInf_yes {a0 a1 a2 a3 a4 : Int} {v1 v2 : Value} {ps : List Int} {B1 B2 : Nat} {w : World} (h1 : Sl w B1 v1 ps) (h2 : Sl w B2 v2 ps) (hB1 : B1 ≤ w.heap.size) (hB2 : B2 ≤ w.heap.size) :
    Calls Try.prog 96 #[.agg #[.int .i64 a0, .int .i64 a1, .int .i64 a2, .int .i64 a3, .int .i64 a4, v1], .agg #[.int .i64 a0, .int .i64 a1, .int .i64 a2, .int .i64 a3, .int .i64 a4, v2]] w fun e w' => e = .returned (.bool true) ∧ Below w.heap.size w w' := by
  obtain ⟨A, c, rfl, -⟩ := id h1
  obtain ⟨A2, c2, rfl, -⟩ := id h2
  go_enter Try.func96, Try.ntmps96
  go_wp2_with fail
  refine (eqInts_yes (h1.below (al2 _ _ _) hB1) (h2.below (al2 _ _ _) hB2) rfl).mono ?_
  rintro e w1 ⟨rfl, hb⟩
  go_wp2_with fail
  go_ret
  exact ⟨rfl, (al2 _ _ _).trans (hb.mono (by simp; omega))⟩
set_option maxHeartbeats 1600000 in
theorem eqCars_yes {v1 v2 : Value} {D : List (Bool × Int)} {B1 B2 : Nat} {w : World} (h1 : SlK w B1 v1 D) (h2 : SlK w B2 v2 D) (hB1 : B1 ≤ w.heap.size) (hB2 : B2 ≤ w.heap.size) :
    Calls Try.prog 49 #[v1, v2] w fun e w' => e = .returned (.bool true) ∧ Below w.heap.size w w' := by
  obtain ⟨A1, c1, rfl, hl1, hm1, hc1⟩ := h1.cells
  obtain ⟨A2, c2, rfl, hl2, hm2, hc2⟩ := h2.cells
  have HC1 := Lib.hid hc1
  have HC2 := Lib.hid hc2
  clear hc1 hc2 h1 h2
  go_enter Try.func49, Try.ntmps49
  go_wp2
  go_loopw [5] (fun i wr => ∃ k : Nat, k ≤ D.length ∧ i = .int .i64 k ∧ Below w.heap.size w wr) (fun i _ => D.length - (intOf i).toNat)
  case atStart => exact ⟨0, Nat.zero_le _, rfl, Below.refl _ _⟩
  case round =>
    obtain ⟨k, hk, rfl, hb⟩ := hrel
    by_cases hlt : k < D.length
    · obtain ⟨b1, o1, rfl, hb1, hcell1⟩ := HC1.out (by omega)
      obtain ⟨b2, o2, rfl, hb2, hcell2⟩ := HC2.out (by omega)
      obtain ⟨q0, q1⟩ := hcell1 k hlt
      obtain ⟨t0, t1⟩ := hcell2 k hlt
      replace q0 := cell_regrown (show wr.cell? ⟨b1, o1 + k * 2, none⟩ = some (.bool (gc D k).1) by rw [hb.cell (by simp only; omega)]; exact q0)
      replace q1 := cell_regrown (show wr.cell? ⟨b1, o1 + k * 2 + 1, none⟩ = some (.int .i64 (gc D k).2) by rw [hb.cell (by simp only; omega)]; exact q1)
      replace t0 := cell_regrown (show wr.cell? ⟨b2, o2 + k * 2, none⟩ = some (.bool (gc D k).1) by rw [hb.cell (by simp only; omega)]; exact t0)
      replace t1 := cell_regrown (show wr.cell? ⟨b2, o2 + k * 2 + 1, none⟩ = some (.int .i64 (gc D k).2) by rw [hb.cell (by simp only; omega)]; exact t1)
      clear hcell1 hcell2
      generalize (gc D k).1 = g1 at *
      generalize (gc D k).2 = g2 at *
      go_wp2
      refine wp_region_quiet_below (by kernel_rfl) (by kernel_rfl) ?_
      repeat (go_big_quiet_step (first | (go_at_call 95; exact Calls.regrown_of (eqCar_yes _ _ _))))
      refine wpQuiet_nil ?_
      intro _ hw'
      obtain ⟨⟨dq, osq⟩, hw''⟩ := hw'
      subst hw''
      go_wp2
      go_roundw
      case rel => exact ⟨k + 1, by omega, by go_num, hb.trans ((below_regrown _ _ _).mono hb.size)⟩
      case measure => simp [intOf]; omega
    · go_wp2
      go_ret
      exact ⟨rfl, hb⟩
set_option maxHeartbeats 3200000 in
theorem eqInfs_yes {v1 v2 : Value} {L : List (List Int)} {B1 B2 : Nat} {w : World} (h1 : SlF w B1 v1 L) (h2 : SlF w B2 v2 L) (hB1 : B1 ≤ w.heap.size) (hB2 : B2 ≤ w.heap.size) :
    Calls Try.prog 50 #[v1, v2] w fun e w' => e = .returned (.bool true) ∧ Below w.heap.size w w' := by
  obtain ⟨A1, c1, rfl, hl1, hm1, hc1⟩ := h1.cells
  obtain ⟨A2, c2, rfl, hl2, hm2, hc2⟩ := h2.cells
  have HC1 := Lib.hid hc1
  have HC2 := Lib.hid hc2
  clear hc1 hc2 h1 h2
  go_enter Try.func50, Try.ntmps50
  go_wp2
  go_loopw [5] (fun i wr => ∃ k : Nat, k ≤ L.length ∧ i = .int .i64 k ∧ Below w.heap.size w wr) (fun i _ => L.length - (intOf i).toNat)
  case atStart => exact ⟨0, Nat.zero_le _, rfl, Below.refl _ _⟩
  case round =>
    obtain ⟨k, hk, rfl, hb⟩ := hrel
    by_cases hlt : k < L.length
    · obtain ⟨b1, o1, rfl, hb1, hcell1⟩ := HC1.out (by omega)
      obtain ⟨b2, o2, rfl, hb2, hcell2⟩ := HC2.out (by omega)
      obtain ⟨hc5, u, q5, s1⟩ := hcell1 k hlt
      obtain ⟨hd5, u', t5, s2⟩ := hcell2 k hlt
      obtain ⟨q0, q1, q2, q3, q4⟩ := five_of (fun j hj => (show wr.cell? ⟨b1, o1 + k * 6 + j, none⟩ = some (.int .i64 (gi (gl L k) j)) by rw [hb.cell (by simp only; omega)]; exact hc5 j hj))
      obtain ⟨t0, t1, t2, t3, t4⟩ := five_of (fun j hj => (show wr.cell? ⟨b2, o2 + k * 6 + j, none⟩ = some (.int .i64 (gi (gl L k) j)) by rw [hb.cell (by simp only; omega)]; exact hd5 j hj))
      replace q0 := cell_regrown q0
      replace q1 := cell_regrown q1
      replace q2 := cell_regrown q2
      replace q3 := cell_regrown q3
      replace q4 := cell_regrown q4
      replace t0 := cell_regrown t0
      replace t1 := cell_regrown t1
      replace t2 := cell_regrown t2
      replace t3 := cell_regrown t3
      replace t4 := cell_regrown t4
      replace q5 := cell_regrown (show wr.cell? ⟨b1, o1 + k * 6 + 5, none⟩ = some u by rw [hb.cell (by simp only; omega)]; exact q5)
      replace t5 := cell_regrown (show wr.cell? ⟨b2, o2 + k * 6 + 5, none⟩ = some u' by rw [hb.cell (by simp only; omega)]; exact t5)
      have s1 := s1.below hb hB1
      have s2 := s2.below hb hB2
      have hz := hb.size
      have hz1 := Nat.le_trans hB1 hz
      have hz2 := Nat.le_trans hB2 hz
      clear hcell1 hcell2 hc5 hd5
      generalize (gl L k).drop 5 = ps at *
      generalize gl L k = o at *
      go_wp2
      refine wp_region_quiet_below (by kernel_rfl) (by kernel_rfl) ?_
      repeat (go_big_quiet_step (first | (go_at_call 96; exact Calls.regrown_of (eqInf_yes (s1.below (below_regrown _ _ _) hz1) (s2.below (below_regrown _ _ _) hz2) (Nat.le_trans hz1 (below_regrown _ _ _).size) (Nat.le_trans hz2 (below_regrown _ _ _).size)))))
      refine wpQuiet_nil ?_
      intro _ hw'
      obtain ⟨⟨dq, osq⟩, hw''⟩ := hw'
      subst hw''
      go_wp2
      go_roundw
      case rel => exact ⟨k + 1, by omega, by go_num, hb.trans ((below_regrown _ _ _).mono hb.size)⟩
      case measure => simp [intOf]; omega
    · go_wp2
      go_ret
      exact ⟨rfl, hb⟩
end Go.Proofs.Ytbefioljddhhpaa
