/-
  Plain law and contracts: the passes of operations (the program's passes).
-/
import Derived.Test.YtpiodiliifnckaaPrg
import Derived.Deep.RegionHeld3
namespace Go.Proofs.Ytpiodiliifnckaa
set_option maxRecDepth 10000
open Go.RowKit Go.Sort

def passK (k : Int) : Int := if k = 1 ∨ k = 2 ∨ k = 3 ∨ k = 5 then 1 else if k = 4 then 2 else if k = 6 then 3 else 0
def placeF (b a r : Int) : Int := if b = 2 then a + r else a
def lastL (out : List (List Int)) : List Int := gl out (out.length - 1)
/-- Does an operation (o, behind p) belong to the pass q? -/
def fitsP (K : Int) (o p : List Int) (r : Int) (q : List Int) : Bool :=
  (gi q 0 == K) && ((gi q 1 == gi o 1) && ((gi q 2 == gi o 6) && (K != 1 || decide (0 < (placeF (gi o 2) (gi o 3) r - placeF (gi p 2) (gi p 3) r) * gi o 1))))
def rackOf (o : List Int) (r : Int) : Int := if gi o 0 = 7 then gi o 7 else r
def psNext (o p : List Int) (k : Nat) (out : List (List Int)) (r : Int) (op : Bool) : List (List Int) × Int × Bool :=
  if passK (gi o 0) = 0 then (out, r, false)
  else if (op && fitsP (passK (gi o 0)) o p r (lastL out)) = true then (out.set (out.length - 1) ((lastL out).set 5 (gi (lastL out) 5 + 1)), r, true)
  else (out ++ [[passK (gi o 0), gi o 1, gi o 6, r, k, 1]], r, true)
def psUp (os : List (List Int)) : Nat → List (List Int) × Int × Bool
  | 0 => ([], 0, false)
  | k + 1 => psNext (gl os k) (gl os (k - 1)) k (psUp os k).1 (rackOf (gl os k) (psUp os k).2.1) (psUp os k).2.2
theorem passK_cases (k : Int) (h : 1 ≤ k ∧ k ≤ 9) : (passK k = 0 ↔ 7 ≤ k) ∧ 0 ≤ passK k ∧ passK k ≤ 3 := by
  unfold passK
  split
  · omega
  · split
    · omega
    · split <;> omega
theorem gi_set_same {xs : List Int} {k : Nat} (h : k < xs.length) (x : Int) : gi (xs.set k x) k = x := by simp [gi, List.getD, h]
theorem gi_set_ne {xs : List Int} {k j : Nat} (h : k ≠ j) (x : Int) : gi (xs.set k x) j = gi xs j := by simp [gi, List.getD, h]
/-- What holds of the passes and of the state after k operations. -/
structure PsInv (os : List (List Int)) (k : Nat) (s : List (List Int) × Int × Bool) : Prop where
  len : s.1.length ≤ k
  row : ∀ q ∈ s.1, q.length = 6 ∧ (1 ≤ gi q 0 ∧ gi q 0 ≤ 3) ∧ (0 ≤ gi q 4 ∧ gi q 4 ≤ 1500) ∧ (1 ≤ gi q 5 ∧ gi q 5 ≤ k) ∧ (-1 ≤ gi q 1 ∧ gi q 1 ≤ 1)
  rack : -3 ≤ s.2.1 ∧ s.2.1 ≤ 3
  op : s.2.2 = true → 0 < s.1.length ∧ 0 < k
theorem psUp_inv {os : List (List Int)} (h : okOps 24 os = true) (k : Nat) (hk : k ≤ os.length) : PsInv os k (psUp os k) := by
  induction k with
  | zero => exact ⟨Nat.le_refl _, by simp [psUp], by simp [psUp], by simp [psUp]⟩
  | succ k ih =>
    obtain ⟨i1, i2, i3, i4⟩ := ih (by omega)
    obtain ⟨-, h15, hb⟩ := okOps_parts h
    obtain ⟨b0, b1, b2, b3, b4, b5, b6, b7⟩ := op_bds (hb k (by omega)).1
    have hr : -3 ≤ rackOf (gl os k) (psUp os k).2.1 ∧ rackOf (gl os k) (psUp os k).2.1 ≤ 3 := by
      unfold rackOf
      split <;> omega
    have hK := passK_cases _ b0
    rw [psUp]
    unfold psNext
    generalize psUp os k = S at *
    obtain ⟨out, rk, op⟩ := S
    simp only at i1 i2 i3 i4 hr ⊢
    generalize rackOf (gl os k) rk = r at *
    by_cases h0 : passK (gi (gl os k) 0) = 0
    · rw [if_pos h0]
      exact ⟨by simp only; omega, fun q hq => by have := i2 q hq; omega, hr, by simp⟩
    · rw [if_neg h0]
      by_cases h1 : (op && fitsP (passK (gi (gl os k) 0)) (gl os k) (gl os (k - 1)) r (lastL out)) = true
      · rw [if_pos h1]
        have hop : op = true := by simp only [Bool.and_eq_true] at h1; exact h1.1
        obtain ⟨j1, j2⟩ := i4 hop
        have hlm : lastL out ∈ out := gl_mem (by omega)
        have hq := i2 _ hlm
        refine ⟨by simp; omega, fun q hqq => ?_, hr, fun _ => by simp; omega⟩
        rcases List.mem_or_eq_of_mem_set hqq with hqq | rfl
        · have := i2 q hqq; omega
        · rw [List.length_set, gi_set_ne (show 5 ≠ 0 by omega), gi_set_ne (show 5 ≠ 4 by omega), gi_set_ne (show 5 ≠ 1 by omega), gi_set_same (by omega)]
          omega
      · rw [if_neg h1]
        refine ⟨by simp; omega, fun q hqq => ?_, hr, fun _ => by simp⟩
        rcases List.mem_append.1 hqq with hqq | hqq
        · have := i2 q hqq; omega
        · simp only [List.mem_singleton] at hqq
          subst hqq
          show 6 = 6 ∧ (1 ≤ passK (gi (gl os k) 0) ∧ passK (gi (gl os k) 0) ≤ 3) ∧ (0 ≤ (k : Int) ∧ (k : Int) ≤ 1500) ∧ (1 ≤ (1 : Int) ∧ (1 : Int) ≤ ((k + 1 : Nat) : Int)) ∧ (-1 ≤ gi (gl os k) 1 ∧ gi (gl os k) 1 ≤ 1)
          omega
set_option maxHeartbeats 800000 in
theorem passKind_any (k : Int) (w : World) : Calls Try.prog 66 #[.int .i64 k] w fun e w' => e = .returned (.int .i64 (passK k)) ∧ w = w' := by
  unfold passK
  by_cases h1 : k = 1
  · subst h1
    go_enter Try.func66, Try.ntmps66
    go_wp2
    go_ret
    exact ⟨by simp, rfl⟩
  by_cases h2 : k = 2
  · subst h2
    go_enter Try.func66, Try.ntmps66
    go_wp2
    go_ret
    exact ⟨by simp, rfl⟩
  by_cases h3 : k = 3
  · subst h3
    go_enter Try.func66, Try.ntmps66
    go_wp2
    go_ret
    exact ⟨by simp, rfl⟩
  by_cases h5 : k = 5
  · subst h5
    go_enter Try.func66, Try.ntmps66
    go_wp2
    go_ret
    exact ⟨by simp, rfl⟩
  by_cases h4 : k = 4
  · subst h4
    go_enter Try.func66, Try.ntmps66
    go_wp2
    go_ret
    exact ⟨by simp, rfl⟩
  by_cases h6 : k = 6
  · subst h6
    go_enter Try.func66, Try.ntmps66
    go_wp2
    go_ret
    exact ⟨by simp, rfl⟩
  have b1 : (k == 1) = false := by simp [h1]
  have b2 : (k == 2) = false := by simp [h2]
  have b3 : (k == 3) = false := by simp [h3]
  have b4 : (k == 4) = false := by simp [h4]
  have b5 : (k == 5) = false := by simp [h5]
  have b6 : (k == 6) = false := by simp [h6]
  go_enter Try.func66, Try.ntmps66
  go_wp2
  go_ret
  exact ⟨by first | rfl | (rw [if_neg (by omega), if_neg (by omega), if_neg (by omega)]), rfl⟩
set_option maxHeartbeats 800000 in
theorem place_any (b a r : Int) (w : World) (h1 : 0 ≤ a ∧ a ≤ 23) (h2 : -3 ≤ r ∧ r ≤ 3) : Calls Try.prog 67 #[.agg #[.int .i64 b, .int .i64 a], .int .i64 r] w fun e w' => e = .returned (.int .i64 (placeF b a r)) ∧ Below w.heap.size w w' := by
  obtain ⟨a0, a1⟩ := h1
  obtain ⟨r0, r1⟩ := h2
  unfold placeF
  by_cases hb : b = 2
  · subst hb
    go_enter Try.func67, Try.ntmps67
    go_wp2
    go_ret
    exact ⟨by simp, al1 _ _⟩
  · have hbb : (b == 2) = false := by simp [hb]
    go_enter Try.func67, Try.ntmps67
    go_wp2
    go_ret
    exact ⟨by first | rfl | rw [if_neg hb], al1 _ _⟩
theorem pass_info : (Try.prog.info? 42).map (fun i => (i.zero, i.size, i.bytes)) = some (some (.agg #[.int .i64 0, .int .i64 0, .int .i64 0, .int .i64 0, .int .i64 0, .int .i64 0]), 6, 48) := by kernel_rfl
theorem OwT.empty (s : Nat) (e : TypeId) (w : World) : OwT s e (w.alloc (.cells #[] e)) w.heap.size (w.alloc (.cells #[] e)).heap.size (.slice (some ⟨w.heap.size, 0, none⟩) 0 0) [] := ⟨OwR.empty e s w, by simp⟩
theorem placeF_bd {b a r : Int} (h1 : 0 ≤ a ∧ a ≤ 23) (h2 : -3 ≤ r ∧ r ≤ 3) : -3 ≤ placeF b a r ∧ placeF b a r ≤ 26 := by
  unfold placeF
  split <;> omega
theorem mul_bd {x y d : Int} (h1 : -3 ≤ x ∧ x ≤ 26) (h2 : -3 ≤ y ∧ y ≤ 26) (h3 : -1 ≤ d ∧ d ≤ 1) : -29 ≤ (x - y) * d ∧ (x - y) * d ≤ 29 := by
  rcases (show d = -1 ∨ d = 0 ∨ d = 1 by omega) with rfl | rfl | rfl <;> omega
theorem OwT.drewN {s : Nat} {e : TypeId} {w : World} {lo hi : Nat} {v : Value} {os : List (List Int)} (h : OwT s e w lo hi v os) (n : Nat) : OwT s e (w.drewN n) lo hi v os := h
theorem wpList_append_pass {ops : Array Oper} {rest : List Oper} {o : Oper} {a : Act} {Q : Exit → Act → World → Prop} (hgd : o.guard = none) (s x : Operand)
    (ho : o.op = .call { callee := .builtin .append, args := #[s, x], argTypes := #[62, 62] })
    (w : World) (lo : Nat) (v : Value) (os : List (List Int)) (a0 a1 a2 a3 a4 a5 : Int) (hs : a.eval s = v) (g0 : Nat) (hx : a.eval x = .slice (some ⟨g0, 0, none⟩) 1 1) (hg0 : g0 = w.heap.size)
    (hown : OwT 6 42 w lo w.heap.size v os) (hlo : lo ≤ w.heap.size) (hlen : os.length ≤ 1000000)
    (h : ∀ v' w', OwT 6 42 w' lo w'.heap.size v' (os ++ [[a0, a1, a2, a3, a4, a5]]) → w.grownBy w' v.ownBlock → wpList Try.prog ops Q rest (a.put o.dst v') w') :
    wpList Try.prog ops Q (o :: rest) a (w.alloc (.cells #[.int .i64 a0, .int .i64 a1, .int .i64 a2, .int .i64 a3, .int .i64 a4, .int .i64 a5] 42)) := by
  subst hg0
  refine wpList_append_elem Try.underlying62 pass_info rfl (by omega) (by omega) hgd s x ho w lo w.heap.size v os.length (vals os.flatten) [.int .i64 a0, .int .i64 a1, .int .i64 a2, .int .i64 a3, .int .i64 a4, .int .i64 a5] hs hx hown.1 hlo (by omega) rfl (by simp [Value.oneCell']) ?_
  intro v' w' h1 h2 _
  refine h v' w' ⟨?_, fun q hq => ?_⟩ h2
  · have e : vals (os ++ [[a0, a1, a2, a3, a4, a5]]).flatten = vals os.flatten ++ [.int .i64 a0, .int .i64 a1, .int .i64 a2, .int .i64 a3, .int .i64 a4, .int .i64 a5] := by simp [vals]
    rw [e, List.length_append]
    exact h1
  · rcases List.mem_append.1 hq with hq | hq
    · exact hown.2 q hq
    · simp only [List.mem_singleton] at hq
      subst hq
      rfl
set_option maxRecDepth 100000 in
set_option maxHeartbeats 16000000 in
theorem passes_any (v : Value) (os : List (List Int)) (B : Nat) (w : World) (h : SlR 8 w B v os) (hB : B ≤ w.heap.size) (hok : okOps 24 os = true) :
    Calls Try.prog 50 #[v] w fun e w' => ∃ r, e = .returned r ∧ OwT 6 42 w' w.heap.size w'.heap.size r (psUp os os.length).1 ∧ Below w.heap.size w w' := by
  obtain ⟨A, c, rfl, hl, hm, -, hcells⟩ := id h
  unfold maxLen at hm
  have HC := Lib.hid hcells
  have HK := Lib.hid hok
  have h15 := (okOps_parts hok).2.1
  clear hcells hok
  have hO := OwT.empty 6 42 w
  have hb := al1 w (.cells #[] 42)
  go_enter Try.func50, Try.ntmps50
  go_wp2
  go_loopw [3, 4, 5, 14] (fun o r op i wr => ∃ (k : Nat) (S : List (List Int) × Int × Bool), k ≤ os.length ∧ i = .int .i64 k ∧ r = .int .i64 S.2.1 ∧ op = .bool S.2.2 ∧ psUp os k = S ∧ OwT 6 42 wr w.heap.size wr.heap.size o S.1 ∧ Below w.heap.size w wr) (fun _ _ _ i _ => os.length - (intOf i).toNat)
  case atStart => exact ⟨0, ([], 0, false), Nat.zero_le _, rfl, rfl, rfl, rfl, hO, hb⟩
  case round =>
    obtain ⟨k, ⟨out, r, op⟩, hk, rfl, rfl, rfl, hS, hO, hb⟩ := hrel
    have hinv := psUp_inv HK.out k hk
    rw [hS] at hinv
    have HS := Lib.hid hS
    clear hS
    by_cases hlt : k < os.length
    · obtain ⟨i1, i2, i3, i4⟩ := hinv
      simp only at i1 i2 i3 i4 hO
      have HR := Lib.hid i2
      obtain ⟨b, off, rfl, hbB, hcell⟩ := HC.out (by omega)
      have Q := Lib.hid (opAt_of (fun j hj => (show wr.cell? ⟨b, off + k * 8 + j, none⟩ = some (.int .i64 (gi (gl os k) j)) by rw [hb.cell (by simp only; omega)]; exact hcell k hlt j hj)))
      obtain ⟨q0, q1, q2, q3, q4, q5, q6, q7⟩ := Q.out
      have hbd := op_bds ((okOps_parts HK.out).2.2 k hlt).1
      have HBD := Lib.hid hbd
      have hK := passK_cases _ hbd.1
      have HN := Lib.hid (show psUp os (k + 1) = psNext (gl os k) (gl os (k - 1)) k out (rackOf (gl os k) r) op by rw [psUp, HS.out])
      have HRK := Lib.hid (show rackOf (gl os k) r = if gi (gl os k) 0 = 7 then gi (gl os k) 7 else r from rfl)
      have HKK := Lib.hid hK
      have HCELL := Lib.hid hcell
      clear hcell i2 hbd hK
      generalize hPK : passK (gi (gl os k) 0) = K at *
      have HPK := Lib.hid hPK
      clear hPK
      have hA := al1 wr (.cells #[.int .i64 (gi (gl os k) 0), .int .i64 (gi (gl os k) 1), .int .i64 (gi (gl os k) 2), .int .i64 (gi (gl os k) 3), .int .i64 (gi (gl os k) 4), .int .i64 (gi (gl os k) 5), .int .i64 (gi (gl os k) 6), .int .i64 (gi (gl os k) 7)] 52)
      have hO1 := (hO.below hA (Nat.le_refl _)).mono (Nat.le_refl _) hA.size
      have hb1 := hb.trans (hA.mono hb.size)
      have hw1 := hb1.size
      cases h0 : (K == 0)
      · have hk7 : (gi (gl os k) 0 == 7) = false := by have := HKK.out; have := HBD.out.1; simp at h0; simp; omega
        have hK0 : K ≠ 0 := by simpa using h0
        have HR0 := Lib.hid (show rackOf (gl os k) r = r by rw [HRK.out, if_neg (by simpa using hk7)])
        have HNA := Lib.hid (fun (hf : (op && fitsP K (gl os k) (gl os (k - 1)) r (lastL out)) = false) => show psUp os (k + 1) = (out ++ [[K, gi (gl os k) 1, gi (gl os k) 6, r, (k : Int), 1]], r, true) by rw [HN.out, HR0.out, psNext, HPK.out, if_neg hK0, if_neg (by rw [hf]; exact Bool.false_ne_true)])
        have HNS := Lib.hid (fun (hf : (op && fitsP K (gl os k) (gl os (k - 1)) r (lastL out)) = true) => show psUp os (k + 1) = (out.set (out.length - 1) ((lastL out).set 5 (gi (lastL out) 5 + 1)), r, true) by rw [HN.out, HR0.out, psNext, HPK.out, if_neg hK0, if_pos hf])
        cases op
        · go_wp2_with (first | (go_at_call 66; refine (int_same HPK.out (passKind_any _ _)).mono ?_; rintro e w' ⟨rfl, rfl⟩) | (at_builtin; (refine wpList_append_pass rfl (.tmp 90) (.tmp 99) rfl _ _ _ _ K (gi (gl os k) 1) (gi (gl os k) 6) r (k : Int) 1 rfl _ rfl (by simp) hO1 hw1 (by omega) ?_; intro v1 w2 hO2 hg2)))
          have hb2 := hb1.trans (hO1.1.grown hg2 (Nat.le_refl _) hw1)
          go_roundw
          case rel => exact ⟨k + 1, (_, _, _), by omega, by go_num, rfl, rfl, HNA.out (by simp), hO2, hb2⟩
          case measure => simp [intOf]; omega
        · obtain ⟨j1, j2⟩ := i4 rfl
          obtain ⟨g, cap, hv, hg1, hg2'⟩ := hO.shape j1
          subst hv
          have hlm : lastL out ∈ out := gl_mem (by omega)
          have hql := HR.out _ hlm
          have hcq := opAt_of (fun j hj => (show wr.cell? ⟨b, off + (k - 1) * 8 + j, none⟩ = some (.int .i64 (gi (gl os (k - 1)) j)) by rw [hb.cell (by simp only; omega)]; exact HCELL.out (k - 1) (by omega) j hj))
          obtain ⟨-, -, p2, p3, -, -, -, -⟩ := hcq
          obtain ⟨-, -, -, ⟨b3, b3'⟩, -, -, -, -⟩ := op_bds ((okOps_parts HK.out).2.2 (k - 1) (by omega)).1
          have hset : ∀ j, j < 6 → wr.cell? ⟨g, (out.length - 1) * 6 + j, none⟩ = some (.int .i64 (gi (lastL out) j)) := fun j hj => (hO.set1 rfl (out.length - 1) j (by omega) hj 0).1
          have l0 := hset 0 (by omega)
          have l1 := hset 1 (by omega)
          have l2 := hset 2 (by omega)
          have l5 := hset 5 (by omega)
          rw [Nat.add_zero] at l0
          obtain ⟨-, ⟨a1, a1'⟩, -, ⟨a3, a3'⟩, -, -, -, -⟩ := HBD.out
          obtain ⟨hl6, -, -, ⟨a5, a5'⟩, -⟩ := hql
          have hr3 := i3
          have hF : fitsP K (gl os k) (gl os (k - 1)) r (lastL out) = ((gi (lastL out) 0 == K) && ((gi (lastL out) 1 == gi (gl os k) 1) && ((gi (lastL out) 2 == gi (gl os k) 6) && (K != 1 || decide (0 < (placeF (gi (gl os k) 2) (gi (gl os k) 3) r - placeF (gi (gl os (k - 1)) 2) (gi (gl os (k - 1)) 3) r) * gi (gl os k) 1))))) := rfl
          have hp1 := placeF_bd (b := gi (gl os k) 2) ⟨a3, a3'⟩ hr3
          have hp2 := placeF_bd (b := gi (gl os (k - 1)) 2) ⟨b3, b3'⟩ hr3
          have PL1 := Lib.hid (fun w => place_any (gi (gl os k) 2) (gi (gl os k) 3) r w ⟨a3, a3'⟩ hr3)
          have PL2 := Lib.hid (fun w => place_any (gi (gl os (k - 1)) 2) (gi (gl os (k - 1)) 3) r w ⟨b3, b3'⟩ hr3)
          generalize placeF (gi (gl os k) 2) (gi (gl os k) 3) r = P1 at *
          generalize placeF (gi (gl os (k - 1)) 2) (gi (gl os (k - 1)) 3) r = P2 at *
          have hmul := mul_bd hp1 hp2 ⟨a1, a1'⟩
          obtain ⟨m0, m1⟩ := hmul
          obtain ⟨P10, P11⟩ := hp1
          obtain ⟨P20, P21⟩ := hp2
          have HF := Lib.hid hF
          have n0 := cell_regrown (w := wr.alloc (.cells #[.int .i64 (gi (gl os k) 0), .int .i64 (gi (gl os k) 1), .int .i64 (gi (gl os k) 2), .int .i64 (gi (gl os k) 3), .int .i64 (gi (gl os k) 4), .int .i64 (gi (gl os k) 5), .int .i64 (gi (gl os k) 6), .int .i64 (gi (gl os k) 7)] 52)) (a := ⟨wr.heap.size, 0, none⟩) (v := .int .i64 (gi (gl os k) 0)) (by simp)
          have n1 := cell_regrown (w := wr.alloc (.cells #[.int .i64 (gi (gl os k) 0), .int .i64 (gi (gl os k) 1), .int .i64 (gi (gl os k) 2), .int .i64 (gi (gl os k) 3), .int .i64 (gi (gl os k) 4), .int .i64 (gi (gl os k) 5), .int .i64 (gi (gl os k) 6), .int .i64 (gi (gl os k) 7)] 52)) (a := ⟨wr.heap.size, 1, none⟩) (v := .int .i64 (gi (gl os k) 1)) (by simp)
          have n2 := cell_regrown (w := wr.alloc (.cells #[.int .i64 (gi (gl os k) 0), .int .i64 (gi (gl os k) 1), .int .i64 (gi (gl os k) 2), .int .i64 (gi (gl os k) 3), .int .i64 (gi (gl os k) 4), .int .i64 (gi (gl os k) 5), .int .i64 (gi (gl os k) 6), .int .i64 (gi (gl os k) 7)] 52)) (a := ⟨wr.heap.size, 2, none⟩) (v := .int .i64 (gi (gl os k) 2)) (by simp)
          have n3 := cell_regrown (w := wr.alloc (.cells #[.int .i64 (gi (gl os k) 0), .int .i64 (gi (gl os k) 1), .int .i64 (gi (gl os k) 2), .int .i64 (gi (gl os k) 3), .int .i64 (gi (gl os k) 4), .int .i64 (gi (gl os k) 5), .int .i64 (gi (gl os k) 6), .int .i64 (gi (gl os k) 7)] 52)) (a := ⟨wr.heap.size, 3, none⟩) (v := .int .i64 (gi (gl os k) 3)) (by simp)
          have n6 := cell_regrown (w := wr.alloc (.cells #[.int .i64 (gi (gl os k) 0), .int .i64 (gi (gl os k) 1), .int .i64 (gi (gl os k) 2), .int .i64 (gi (gl os k) 3), .int .i64 (gi (gl os k) 4), .int .i64 (gi (gl os k) 5), .int .i64 (gi (gl os k) 6), .int .i64 (gi (gl os k) 7)] 52)) (a := ⟨wr.heap.size, 6, none⟩) (v := .int .i64 (gi (gl os k) 6)) (by simp)
          have hfl : ∀ (a : Addr) (v : Value), wr.cell? a = some v → ∀ (x : Nat) (os' : Array Obj), (grow (redrawn (wr.alloc (.cells #[.int .i64 (gi (gl os k) 0), .int .i64 (gi (gl os k) 1), .int .i64 (gi (gl os k) 2), .int .i64 (gi (gl os k) 3), .int .i64 (gi (gl os k) 4), .int .i64 (gi (gl os k) 5), .int .i64 (gi (gl os k) 6), .int .i64 (gi (gl os k) 7)] 52)) x) os').cell? a = some v := fun a v ha => cell_regrown (by rw [World.cell?_alloc_lt _ _ _ (block_lt_of_cell ha)]; exact ha)
          have p2r := hfl _ _ p2
          have p3r := hfl _ _ p3
          have HL0 := Lib.hid (hfl _ _ l0)
          have HL1 := Lib.hid (hfl _ _ l1)
          have HL2 := Lib.hid (hfl _ _ l2)
          have HL5 := Lib.hid (hfl _ _ l5)
          have HFZ := Lib.hid (fun (W' : World) (hW : OwT 6 42 W' w.heap.size wr.heap.size (.slice (some ⟨g, 0, none⟩) out.length cap) out) => (hW.set1 rfl (out.length - 1) 5 (by omega) (by omega) (gi (lastL out) 5 + 1)))
          clear hset hfl hF hlm
          generalize gl os (k - 1) = pp at *
          cases hK1 : (K != 1)
          · cases hpos : decide (0 < (P1 - P2) * gi (gl os k) 1)
            · skip
              cases h1 : (gi (lastL out) 0 == K)
              · go_wp2_with (go_at_call 66; refine (int_same HPK.out (passKind_any _ _)).mono ?_; rintro e w' ⟨rfl, rfl⟩)
                refine wp_region_quiet_below (by kernel_rfl) (by kernel_rfl) ?_
                repeat (go_big_quiet_step (first | (go_at_call_of 67 (Go.Value.agg #[.int .i64 (gi (gl os k) 2), .int .i64 (gi (gl os k) 3)]); exact Calls.regrown_of (PL1.out _)) | (go_at_call_of 67 (Go.Value.agg #[.int .i64 (gi pp 2), .int .i64 (gi pp 3)]); exact Calls.regrown_of (PL2.out _))))
                refine wpQuiet_nil ?_
                intro _ hw'
                obtain ⟨⟨dq, osq⟩, hw''⟩ := hw'
                subst hw''
                have k0 := HL0.out dq osq
                have k1 := HL1.out dq osq
                have k2 := HL2.out dq osq
                have k5 := HL5.out dq osq
                have x1 := n1 dq osq
                have x6 := n6 dq osq
                have hbq := below_regrown (wr.alloc (.cells #[.int .i64 (gi (gl os k) 0), .int .i64 (gi (gl os k) 1), .int .i64 (gi (gl os k) 2), .int .i64 (gi (gl os k) 3), .int .i64 (gi (gl os k) 4), .int .i64 (gi (gl os k) 5), .int .i64 (gi (gl os k) 6), .int .i64 (gi (gl os k) 7)] 52)) dq osq
                have hOq := (hO1.below hbq (Nat.le_refl _))
                have hb4 := hb1.trans (hbq.mono hb1.size)
                have hOw := (hO.below hA (Nat.le_refl _)).below hbq hA.size
                obtain ⟨-, fz, hO5, hch⟩ := HFZ.out _ hOw
                generalize grow (redrawn (wr.alloc (.cells #[.int .i64 (gi (gl os k) 0), .int .i64 (gi (gl os k) 1), .int .i64 (gi (gl os k) 2), .int .i64 (gi (gl os k) 3), .int .i64 (gi (gl os k) 4), .int .i64 (gi (gl os k) 5), .int .i64 (gi (gl os k) 6), .int .i64 (gi (gl os k) 7)] 52)) dq) osq = Wq at *
                have HO5 := Lib.hid hO5
                have HCH := Lib.hid hch
                have hwq := hb4.size
                have hzq : wr.heap.size ≤ Wq.heap.size := Nat.le_trans hA.size hbq.size
                have hO7 := hOq.mono (Nat.le_refl _) hbq.size
                clear hO5 hch n0 n1 n2 n3 n6 p2r p3r
                go_wp2
                go_quiet (fail)
                go_wp2_with (first | (at_builtin; (refine wpList_append_pass rfl (.tmp 90) (.tmp 99) rfl _ _ _ _ K (gi (gl os k) 1) (gi (gl os k) 6) r (k : Int) 1 rfl _ rfl (by simp) (OwT.drewN hO7 _) hwq (by omega) ?_; intro v1 w2 hO2 hg2)))
                have hb2 := (below_drewN hb4 _).trans ((OwT.drewN hO7 _).1.grown hg2 (Nat.le_refl _) hwq)
                go_roundw
                case rel => exact ⟨k + 1, (_, _, _), by omega, by go_num, rfl, rfl, HNA.out (by rw [HF.out, h1]; rfl), hO2, hb2⟩
                case measure => simp [intOf]; omega
              · cases h2 : (gi (lastL out) 1 == gi (gl os k) 1)
                · go_wp2_with (go_at_call 66; refine (int_same HPK.out (passKind_any _ _)).mono ?_; rintro e w' ⟨rfl, rfl⟩)
                  refine wp_region_quiet_below (by kernel_rfl) (by kernel_rfl) ?_
                  repeat (go_big_quiet_step (first | (go_at_call_of 67 (Go.Value.agg #[.int .i64 (gi (gl os k) 2), .int .i64 (gi (gl os k) 3)]); exact Calls.regrown_of (PL1.out _)) | (go_at_call_of 67 (Go.Value.agg #[.int .i64 (gi pp 2), .int .i64 (gi pp 3)]); exact Calls.regrown_of (PL2.out _))))
                  refine wpQuiet_nil ?_
                  intro _ hw'
                  obtain ⟨⟨dq, osq⟩, hw''⟩ := hw'
                  subst hw''
                  have k0 := HL0.out dq osq
                  have k1 := HL1.out dq osq
                  have k2 := HL2.out dq osq
                  have k5 := HL5.out dq osq
                  have x1 := n1 dq osq
                  have x6 := n6 dq osq
                  have hbq := below_regrown (wr.alloc (.cells #[.int .i64 (gi (gl os k) 0), .int .i64 (gi (gl os k) 1), .int .i64 (gi (gl os k) 2), .int .i64 (gi (gl os k) 3), .int .i64 (gi (gl os k) 4), .int .i64 (gi (gl os k) 5), .int .i64 (gi (gl os k) 6), .int .i64 (gi (gl os k) 7)] 52)) dq osq
                  have hOq := (hO1.below hbq (Nat.le_refl _))
                  have hb4 := hb1.trans (hbq.mono hb1.size)
                  have hOw := (hO.below hA (Nat.le_refl _)).below hbq hA.size
                  obtain ⟨-, fz, hO5, hch⟩ := HFZ.out _ hOw
                  generalize grow (redrawn (wr.alloc (.cells #[.int .i64 (gi (gl os k) 0), .int .i64 (gi (gl os k) 1), .int .i64 (gi (gl os k) 2), .int .i64 (gi (gl os k) 3), .int .i64 (gi (gl os k) 4), .int .i64 (gi (gl os k) 5), .int .i64 (gi (gl os k) 6), .int .i64 (gi (gl os k) 7)] 52)) dq) osq = Wq at *
                  have HO5 := Lib.hid hO5
                  have HCH := Lib.hid hch
                  have hwq := hb4.size
                  have hzq : wr.heap.size ≤ Wq.heap.size := Nat.le_trans hA.size hbq.size
                  have hO7 := hOq.mono (Nat.le_refl _) hbq.size
                  clear hO5 hch n0 n1 n2 n3 n6 p2r p3r
                  go_wp2
                  go_quiet (fail)
                  go_wp2_with (first | (at_builtin; (refine wpList_append_pass rfl (.tmp 90) (.tmp 99) rfl _ _ _ _ K (gi (gl os k) 1) (gi (gl os k) 6) r (k : Int) 1 rfl _ rfl (by simp) (OwT.drewN hO7 _) hwq (by omega) ?_; intro v1 w2 hO2 hg2)))
                  have hb2 := (below_drewN hb4 _).trans ((OwT.drewN hO7 _).1.grown hg2 (Nat.le_refl _) hwq)
                  go_roundw
                  case rel => exact ⟨k + 1, (_, _, _), by omega, by go_num, rfl, rfl, HNA.out (by rw [HF.out, h1, h2]; rfl), hO2, hb2⟩
                  case measure => simp [intOf]; omega
                · cases h3 : (gi (lastL out) 2 == gi (gl os k) 6)
                  · go_wp2_with (go_at_call 66; refine (int_same HPK.out (passKind_any _ _)).mono ?_; rintro e w' ⟨rfl, rfl⟩)
                    refine wp_region_quiet_below (by kernel_rfl) (by kernel_rfl) ?_
                    repeat (go_big_quiet_step (first | (go_at_call_of 67 (Go.Value.agg #[.int .i64 (gi (gl os k) 2), .int .i64 (gi (gl os k) 3)]); exact Calls.regrown_of (PL1.out _)) | (go_at_call_of 67 (Go.Value.agg #[.int .i64 (gi pp 2), .int .i64 (gi pp 3)]); exact Calls.regrown_of (PL2.out _))))
                    refine wpQuiet_nil ?_
                    intro _ hw'
                    obtain ⟨⟨dq, osq⟩, hw''⟩ := hw'
                    subst hw''
                    have k0 := HL0.out dq osq
                    have k1 := HL1.out dq osq
                    have k2 := HL2.out dq osq
                    have k5 := HL5.out dq osq
                    have x1 := n1 dq osq
                    have x6 := n6 dq osq
                    have hbq := below_regrown (wr.alloc (.cells #[.int .i64 (gi (gl os k) 0), .int .i64 (gi (gl os k) 1), .int .i64 (gi (gl os k) 2), .int .i64 (gi (gl os k) 3), .int .i64 (gi (gl os k) 4), .int .i64 (gi (gl os k) 5), .int .i64 (gi (gl os k) 6), .int .i64 (gi (gl os k) 7)] 52)) dq osq
                    have hOq := (hO1.below hbq (Nat.le_refl _))
                    have hb4 := hb1.trans (hbq.mono hb1.size)
                    have hOw := (hO.below hA (Nat.le_refl _)).below hbq hA.size
                    obtain ⟨-, fz, hO5, hch⟩ := HFZ.out _ hOw
                    generalize grow (redrawn (wr.alloc (.cells #[.int .i64 (gi (gl os k) 0), .int .i64 (gi (gl os k) 1), .int .i64 (gi (gl os k) 2), .int .i64 (gi (gl os k) 3), .int .i64 (gi (gl os k) 4), .int .i64 (gi (gl os k) 5), .int .i64 (gi (gl os k) 6), .int .i64 (gi (gl os k) 7)] 52)) dq) osq = Wq at *
                    have HO5 := Lib.hid hO5
                    have HCH := Lib.hid hch
                    have hwq := hb4.size
                    have hzq : wr.heap.size ≤ Wq.heap.size := Nat.le_trans hA.size hbq.size
                    have hO7 := hOq.mono (Nat.le_refl _) hbq.size
                    clear hO5 hch n0 n1 n2 n3 n6 p2r p3r
                    go_wp2
                    go_quiet (fail)
                    go_wp2_with (first | (at_builtin; (refine wpList_append_pass rfl (.tmp 90) (.tmp 99) rfl _ _ _ _ K (gi (gl os k) 1) (gi (gl os k) 6) r (k : Int) 1 rfl _ rfl (by simp) (OwT.drewN hO7 _) hwq (by omega) ?_; intro v1 w2 hO2 hg2)))
                    have hb2 := (below_drewN hb4 _).trans ((OwT.drewN hO7 _).1.grown hg2 (Nat.le_refl _) hwq)
                    go_roundw
                    case rel => exact ⟨k + 1, (_, _, _), by omega, by go_num, rfl, rfl, HNA.out (by rw [HF.out, h1, h2, h3]; rfl), hO2, hb2⟩
                    case measure => simp [intOf]; omega
                  · go_wp2_with (go_at_call 66; refine (int_same HPK.out (passKind_any _ _)).mono ?_; rintro e w' ⟨rfl, rfl⟩)
                    refine wp_region_quiet_below (by kernel_rfl) (by kernel_rfl) ?_
                    repeat (go_big_quiet_step (first | (go_at_call_of 67 (Go.Value.agg #[.int .i64 (gi (gl os k) 2), .int .i64 (gi (gl os k) 3)]); exact Calls.regrown_of (PL1.out _)) | (go_at_call_of 67 (Go.Value.agg #[.int .i64 (gi pp 2), .int .i64 (gi pp 3)]); exact Calls.regrown_of (PL2.out _))))
                    refine wpQuiet_nil ?_
                    intro _ hw'
                    obtain ⟨⟨dq, osq⟩, hw''⟩ := hw'
                    subst hw''
                    have k0 := HL0.out dq osq
                    have k1 := HL1.out dq osq
                    have k2 := HL2.out dq osq
                    have k5 := HL5.out dq osq
                    have x1 := n1 dq osq
                    have x6 := n6 dq osq
                    have hbq := below_regrown (wr.alloc (.cells #[.int .i64 (gi (gl os k) 0), .int .i64 (gi (gl os k) 1), .int .i64 (gi (gl os k) 2), .int .i64 (gi (gl os k) 3), .int .i64 (gi (gl os k) 4), .int .i64 (gi (gl os k) 5), .int .i64 (gi (gl os k) 6), .int .i64 (gi (gl os k) 7)] 52)) dq osq
                    have hOq := (hO1.below hbq (Nat.le_refl _))
                    have hb4 := hb1.trans (hbq.mono hb1.size)
                    have hOw := (hO.below hA (Nat.le_refl _)).below hbq hA.size
                    obtain ⟨-, fz, hO5, hch⟩ := HFZ.out _ hOw
                    generalize grow (redrawn (wr.alloc (.cells #[.int .i64 (gi (gl os k) 0), .int .i64 (gi (gl os k) 1), .int .i64 (gi (gl os k) 2), .int .i64 (gi (gl os k) 3), .int .i64 (gi (gl os k) 4), .int .i64 (gi (gl os k) 5), .int .i64 (gi (gl os k) 6), .int .i64 (gi (gl os k) 7)] 52)) dq) osq = Wq at *
                    have HO5 := Lib.hid hO5
                    have HCH := Lib.hid hch
                    have hwq := hb4.size
                    have hzq : wr.heap.size ≤ Wq.heap.size := Nat.le_trans hA.size hbq.size
                    have hO7 := hOq.mono (Nat.le_refl _) hbq.size
                    clear hO5 hch n0 n1 n2 n3 n6 p2r p3r
                    go_wp2
                    go_quiet (fail)
                    go_wp2_with (first | (at_builtin; (refine wpList_append_pass rfl (.tmp 90) (.tmp 99) rfl _ _ _ _ K (gi (gl os k) 1) (gi (gl os k) 6) r (k : Int) 1 rfl _ rfl (by simp) (OwT.drewN hO7 _) hwq (by omega) ?_; intro v1 w2 hO2 hg2)))
                    have hb2 := (below_drewN hb4 _).trans ((OwT.drewN hO7 _).1.grown hg2 (Nat.le_refl _) hwq)
                    go_roundw
                    case rel => exact ⟨k + 1, (_, _, _), by omega, by go_num, rfl, rfl, HNA.out (by rw [HF.out, h1, h2, h3, hK1, hpos]; rfl), hO2, hb2⟩
                    case measure => simp [intOf]; omega
            · skip
              cases h1 : (gi (lastL out) 0 == K)
              · go_wp2_with (go_at_call 66; refine (int_same HPK.out (passKind_any _ _)).mono ?_; rintro e w' ⟨rfl, rfl⟩)
                refine wp_region_quiet_below (by kernel_rfl) (by kernel_rfl) ?_
                repeat (go_big_quiet_step (first | (go_at_call_of 67 (Go.Value.agg #[.int .i64 (gi (gl os k) 2), .int .i64 (gi (gl os k) 3)]); exact Calls.regrown_of (PL1.out _)) | (go_at_call_of 67 (Go.Value.agg #[.int .i64 (gi pp 2), .int .i64 (gi pp 3)]); exact Calls.regrown_of (PL2.out _))))
                refine wpQuiet_nil ?_
                intro _ hw'
                obtain ⟨⟨dq, osq⟩, hw''⟩ := hw'
                subst hw''
                have k0 := HL0.out dq osq
                have k1 := HL1.out dq osq
                have k2 := HL2.out dq osq
                have k5 := HL5.out dq osq
                have x1 := n1 dq osq
                have x6 := n6 dq osq
                have hbq := below_regrown (wr.alloc (.cells #[.int .i64 (gi (gl os k) 0), .int .i64 (gi (gl os k) 1), .int .i64 (gi (gl os k) 2), .int .i64 (gi (gl os k) 3), .int .i64 (gi (gl os k) 4), .int .i64 (gi (gl os k) 5), .int .i64 (gi (gl os k) 6), .int .i64 (gi (gl os k) 7)] 52)) dq osq
                have hOq := (hO1.below hbq (Nat.le_refl _))
                have hb4 := hb1.trans (hbq.mono hb1.size)
                have hOw := (hO.below hA (Nat.le_refl _)).below hbq hA.size
                obtain ⟨-, fz, hO5, hch⟩ := HFZ.out _ hOw
                generalize grow (redrawn (wr.alloc (.cells #[.int .i64 (gi (gl os k) 0), .int .i64 (gi (gl os k) 1), .int .i64 (gi (gl os k) 2), .int .i64 (gi (gl os k) 3), .int .i64 (gi (gl os k) 4), .int .i64 (gi (gl os k) 5), .int .i64 (gi (gl os k) 6), .int .i64 (gi (gl os k) 7)] 52)) dq) osq = Wq at *
                have HO5 := Lib.hid hO5
                have HCH := Lib.hid hch
                have hwq := hb4.size
                have hzq : wr.heap.size ≤ Wq.heap.size := Nat.le_trans hA.size hbq.size
                have hO7 := hOq.mono (Nat.le_refl _) hbq.size
                clear hO5 hch n0 n1 n2 n3 n6 p2r p3r
                go_wp2
                go_quiet (fail)
                go_wp2_with (first | (at_builtin; (refine wpList_append_pass rfl (.tmp 90) (.tmp 99) rfl _ _ _ _ K (gi (gl os k) 1) (gi (gl os k) 6) r (k : Int) 1 rfl _ rfl (by simp) (OwT.drewN hO7 _) hwq (by omega) ?_; intro v1 w2 hO2 hg2)))
                have hb2 := (below_drewN hb4 _).trans ((OwT.drewN hO7 _).1.grown hg2 (Nat.le_refl _) hwq)
                go_roundw
                case rel => exact ⟨k + 1, (_, _, _), by omega, by go_num, rfl, rfl, HNA.out (by rw [HF.out, h1]; rfl), hO2, hb2⟩
                case measure => simp [intOf]; omega
              · cases h2 : (gi (lastL out) 1 == gi (gl os k) 1)
                · go_wp2_with (go_at_call 66; refine (int_same HPK.out (passKind_any _ _)).mono ?_; rintro e w' ⟨rfl, rfl⟩)
                  refine wp_region_quiet_below (by kernel_rfl) (by kernel_rfl) ?_
                  repeat (go_big_quiet_step (first | (go_at_call_of 67 (Go.Value.agg #[.int .i64 (gi (gl os k) 2), .int .i64 (gi (gl os k) 3)]); exact Calls.regrown_of (PL1.out _)) | (go_at_call_of 67 (Go.Value.agg #[.int .i64 (gi pp 2), .int .i64 (gi pp 3)]); exact Calls.regrown_of (PL2.out _))))
                  refine wpQuiet_nil ?_
                  intro _ hw'
                  obtain ⟨⟨dq, osq⟩, hw''⟩ := hw'
                  subst hw''
                  have k0 := HL0.out dq osq
                  have k1 := HL1.out dq osq
                  have k2 := HL2.out dq osq
                  have k5 := HL5.out dq osq
                  have x1 := n1 dq osq
                  have x6 := n6 dq osq
                  have hbq := below_regrown (wr.alloc (.cells #[.int .i64 (gi (gl os k) 0), .int .i64 (gi (gl os k) 1), .int .i64 (gi (gl os k) 2), .int .i64 (gi (gl os k) 3), .int .i64 (gi (gl os k) 4), .int .i64 (gi (gl os k) 5), .int .i64 (gi (gl os k) 6), .int .i64 (gi (gl os k) 7)] 52)) dq osq
                  have hOq := (hO1.below hbq (Nat.le_refl _))
                  have hb4 := hb1.trans (hbq.mono hb1.size)
                  have hOw := (hO.below hA (Nat.le_refl _)).below hbq hA.size
                  obtain ⟨-, fz, hO5, hch⟩ := HFZ.out _ hOw
                  generalize grow (redrawn (wr.alloc (.cells #[.int .i64 (gi (gl os k) 0), .int .i64 (gi (gl os k) 1), .int .i64 (gi (gl os k) 2), .int .i64 (gi (gl os k) 3), .int .i64 (gi (gl os k) 4), .int .i64 (gi (gl os k) 5), .int .i64 (gi (gl os k) 6), .int .i64 (gi (gl os k) 7)] 52)) dq) osq = Wq at *
                  have HO5 := Lib.hid hO5
                  have HCH := Lib.hid hch
                  have hwq := hb4.size
                  have hzq : wr.heap.size ≤ Wq.heap.size := Nat.le_trans hA.size hbq.size
                  have hO7 := hOq.mono (Nat.le_refl _) hbq.size
                  clear hO5 hch n0 n1 n2 n3 n6 p2r p3r
                  go_wp2
                  go_quiet (fail)
                  go_wp2_with (first | (at_builtin; (refine wpList_append_pass rfl (.tmp 90) (.tmp 99) rfl _ _ _ _ K (gi (gl os k) 1) (gi (gl os k) 6) r (k : Int) 1 rfl _ rfl (by simp) (OwT.drewN hO7 _) hwq (by omega) ?_; intro v1 w2 hO2 hg2)))
                  have hb2 := (below_drewN hb4 _).trans ((OwT.drewN hO7 _).1.grown hg2 (Nat.le_refl _) hwq)
                  go_roundw
                  case rel => exact ⟨k + 1, (_, _, _), by omega, by go_num, rfl, rfl, HNA.out (by rw [HF.out, h1, h2]; rfl), hO2, hb2⟩
                  case measure => simp [intOf]; omega
                · cases h3 : (gi (lastL out) 2 == gi (gl os k) 6)
                  · go_wp2_with (go_at_call 66; refine (int_same HPK.out (passKind_any _ _)).mono ?_; rintro e w' ⟨rfl, rfl⟩)
                    refine wp_region_quiet_below (by kernel_rfl) (by kernel_rfl) ?_
                    repeat (go_big_quiet_step (first | (go_at_call_of 67 (Go.Value.agg #[.int .i64 (gi (gl os k) 2), .int .i64 (gi (gl os k) 3)]); exact Calls.regrown_of (PL1.out _)) | (go_at_call_of 67 (Go.Value.agg #[.int .i64 (gi pp 2), .int .i64 (gi pp 3)]); exact Calls.regrown_of (PL2.out _))))
                    refine wpQuiet_nil ?_
                    intro _ hw'
                    obtain ⟨⟨dq, osq⟩, hw''⟩ := hw'
                    subst hw''
                    have k0 := HL0.out dq osq
                    have k1 := HL1.out dq osq
                    have k2 := HL2.out dq osq
                    have k5 := HL5.out dq osq
                    have x1 := n1 dq osq
                    have x6 := n6 dq osq
                    have hbq := below_regrown (wr.alloc (.cells #[.int .i64 (gi (gl os k) 0), .int .i64 (gi (gl os k) 1), .int .i64 (gi (gl os k) 2), .int .i64 (gi (gl os k) 3), .int .i64 (gi (gl os k) 4), .int .i64 (gi (gl os k) 5), .int .i64 (gi (gl os k) 6), .int .i64 (gi (gl os k) 7)] 52)) dq osq
                    have hOq := (hO1.below hbq (Nat.le_refl _))
                    have hb4 := hb1.trans (hbq.mono hb1.size)
                    have hOw := (hO.below hA (Nat.le_refl _)).below hbq hA.size
                    obtain ⟨-, fz, hO5, hch⟩ := HFZ.out _ hOw
                    generalize grow (redrawn (wr.alloc (.cells #[.int .i64 (gi (gl os k) 0), .int .i64 (gi (gl os k) 1), .int .i64 (gi (gl os k) 2), .int .i64 (gi (gl os k) 3), .int .i64 (gi (gl os k) 4), .int .i64 (gi (gl os k) 5), .int .i64 (gi (gl os k) 6), .int .i64 (gi (gl os k) 7)] 52)) dq) osq = Wq at *
                    have HO5 := Lib.hid hO5
                    have HCH := Lib.hid hch
                    have hwq := hb4.size
                    have hzq : wr.heap.size ≤ Wq.heap.size := Nat.le_trans hA.size hbq.size
                    have hO7 := hOq.mono (Nat.le_refl _) hbq.size
                    clear hO5 hch n0 n1 n2 n3 n6 p2r p3r
                    go_wp2
                    go_quiet (fail)
                    go_wp2_with (first | (at_builtin; (refine wpList_append_pass rfl (.tmp 90) (.tmp 99) rfl _ _ _ _ K (gi (gl os k) 1) (gi (gl os k) 6) r (k : Int) 1 rfl _ rfl (by simp) (OwT.drewN hO7 _) hwq (by omega) ?_; intro v1 w2 hO2 hg2)))
                    have hb2 := (below_drewN hb4 _).trans ((OwT.drewN hO7 _).1.grown hg2 (Nat.le_refl _) hwq)
                    go_roundw
                    case rel => exact ⟨k + 1, (_, _, _), by omega, by go_num, rfl, rfl, HNA.out (by rw [HF.out, h1, h2, h3]; rfl), hO2, hb2⟩
                    case measure => simp [intOf]; omega
                  · go_wp2_with (go_at_call 66; refine (int_same HPK.out (passKind_any _ _)).mono ?_; rintro e w' ⟨rfl, rfl⟩)
                    refine wp_region_quiet_below (by kernel_rfl) (by kernel_rfl) ?_
                    repeat (go_big_quiet_step (first | (go_at_call_of 67 (Go.Value.agg #[.int .i64 (gi (gl os k) 2), .int .i64 (gi (gl os k) 3)]); exact Calls.regrown_of (PL1.out _)) | (go_at_call_of 67 (Go.Value.agg #[.int .i64 (gi pp 2), .int .i64 (gi pp 3)]); exact Calls.regrown_of (PL2.out _))))
                    refine wpQuiet_nil ?_
                    intro _ hw'
                    obtain ⟨⟨dq, osq⟩, hw''⟩ := hw'
                    subst hw''
                    have k0 := HL0.out dq osq
                    have k1 := HL1.out dq osq
                    have k2 := HL2.out dq osq
                    have k5 := HL5.out dq osq
                    have x1 := n1 dq osq
                    have x6 := n6 dq osq
                    have hbq := below_regrown (wr.alloc (.cells #[.int .i64 (gi (gl os k) 0), .int .i64 (gi (gl os k) 1), .int .i64 (gi (gl os k) 2), .int .i64 (gi (gl os k) 3), .int .i64 (gi (gl os k) 4), .int .i64 (gi (gl os k) 5), .int .i64 (gi (gl os k) 6), .int .i64 (gi (gl os k) 7)] 52)) dq osq
                    have hOq := (hO1.below hbq (Nat.le_refl _))
                    have hb4 := hb1.trans (hbq.mono hb1.size)
                    have hOw := (hO.below hA (Nat.le_refl _)).below hbq hA.size
                    obtain ⟨-, fz, hO5, hch⟩ := HFZ.out _ hOw
                    generalize grow (redrawn (wr.alloc (.cells #[.int .i64 (gi (gl os k) 0), .int .i64 (gi (gl os k) 1), .int .i64 (gi (gl os k) 2), .int .i64 (gi (gl os k) 3), .int .i64 (gi (gl os k) 4), .int .i64 (gi (gl os k) 5), .int .i64 (gi (gl os k) 6), .int .i64 (gi (gl os k) 7)] 52)) dq) osq = Wq at *
                    have HO5 := Lib.hid hO5
                    have HCH := Lib.hid hch
                    have hwq := hb4.size
                    have hzq : wr.heap.size ≤ Wq.heap.size := Nat.le_trans hA.size hbq.size
                    have hO7 := hOq.mono (Nat.le_refl _) hbq.size
                    clear hO5 hch n0 n1 n2 n3 n6 p2r p3r
                    go_wp2
                    go_quiet (fail)
                    go_wp2
                    go_roundw
                    case rel =>
                      obtain ⟨-, -, O5, C5⟩ := HFZ.out _ (OwT.drewN hOw nq)
                      exact ⟨k + 1, (_, _, _), by omega, by go_num, rfl, rfl, HNS.out (by rw [HF.out, h1, h2, h3, hK1, hpos]; rfl), O5.mono (Nat.le_refl _) (Nat.le_trans hzq C5.size), (below_drewN hb4 nq).trans (C5.below (Nat.le_refl _) hwq)⟩
                    case measure => simp [intOf]; omega
          · skip
            cases h1 : (gi (lastL out) 0 == K)
            · go_wp2_with (go_at_call 66; refine (int_same HPK.out (passKind_any _ _)).mono ?_; rintro e w' ⟨rfl, rfl⟩)
              refine wp_region_quiet_below (by kernel_rfl) (by kernel_rfl) ?_
              repeat (go_big_quiet_step (first | (go_at_call_of 67 (Go.Value.agg #[.int .i64 (gi (gl os k) 2), .int .i64 (gi (gl os k) 3)]); exact Calls.regrown_of (PL1.out _)) | (go_at_call_of 67 (Go.Value.agg #[.int .i64 (gi pp 2), .int .i64 (gi pp 3)]); exact Calls.regrown_of (PL2.out _))))
              refine wpQuiet_nil ?_
              intro _ hw'
              obtain ⟨⟨dq, osq⟩, hw''⟩ := hw'
              subst hw''
              have k0 := HL0.out dq osq
              have k1 := HL1.out dq osq
              have k2 := HL2.out dq osq
              have k5 := HL5.out dq osq
              have x1 := n1 dq osq
              have x6 := n6 dq osq
              have hbq := below_regrown (wr.alloc (.cells #[.int .i64 (gi (gl os k) 0), .int .i64 (gi (gl os k) 1), .int .i64 (gi (gl os k) 2), .int .i64 (gi (gl os k) 3), .int .i64 (gi (gl os k) 4), .int .i64 (gi (gl os k) 5), .int .i64 (gi (gl os k) 6), .int .i64 (gi (gl os k) 7)] 52)) dq osq
              have hOq := (hO1.below hbq (Nat.le_refl _))
              have hb4 := hb1.trans (hbq.mono hb1.size)
              have hOw := (hO.below hA (Nat.le_refl _)).below hbq hA.size
              obtain ⟨-, fz, hO5, hch⟩ := HFZ.out _ hOw
              generalize grow (redrawn (wr.alloc (.cells #[.int .i64 (gi (gl os k) 0), .int .i64 (gi (gl os k) 1), .int .i64 (gi (gl os k) 2), .int .i64 (gi (gl os k) 3), .int .i64 (gi (gl os k) 4), .int .i64 (gi (gl os k) 5), .int .i64 (gi (gl os k) 6), .int .i64 (gi (gl os k) 7)] 52)) dq) osq = Wq at *
              have HO5 := Lib.hid hO5
              have HCH := Lib.hid hch
              have hwq := hb4.size
              have hzq : wr.heap.size ≤ Wq.heap.size := Nat.le_trans hA.size hbq.size
              have hO7 := hOq.mono (Nat.le_refl _) hbq.size
              clear hO5 hch n0 n1 n2 n3 n6 p2r p3r
              go_wp2
              go_quiet (fail)
              go_wp2_with (first | (at_builtin; (refine wpList_append_pass rfl (.tmp 90) (.tmp 99) rfl _ _ _ _ K (gi (gl os k) 1) (gi (gl os k) 6) r (k : Int) 1 rfl _ rfl (by simp) (OwT.drewN hO7 _) hwq (by omega) ?_; intro v1 w2 hO2 hg2)))
              have hb2 := (below_drewN hb4 _).trans ((OwT.drewN hO7 _).1.grown hg2 (Nat.le_refl _) hwq)
              go_roundw
              case rel => exact ⟨k + 1, (_, _, _), by omega, by go_num, rfl, rfl, HNA.out (by rw [HF.out, h1]; rfl), hO2, hb2⟩
              case measure => simp [intOf]; omega
            · cases h2 : (gi (lastL out) 1 == gi (gl os k) 1)
              · go_wp2_with (go_at_call 66; refine (int_same HPK.out (passKind_any _ _)).mono ?_; rintro e w' ⟨rfl, rfl⟩)
                refine wp_region_quiet_below (by kernel_rfl) (by kernel_rfl) ?_
                repeat (go_big_quiet_step (first | (go_at_call_of 67 (Go.Value.agg #[.int .i64 (gi (gl os k) 2), .int .i64 (gi (gl os k) 3)]); exact Calls.regrown_of (PL1.out _)) | (go_at_call_of 67 (Go.Value.agg #[.int .i64 (gi pp 2), .int .i64 (gi pp 3)]); exact Calls.regrown_of (PL2.out _))))
                refine wpQuiet_nil ?_
                intro _ hw'
                obtain ⟨⟨dq, osq⟩, hw''⟩ := hw'
                subst hw''
                have k0 := HL0.out dq osq
                have k1 := HL1.out dq osq
                have k2 := HL2.out dq osq
                have k5 := HL5.out dq osq
                have x1 := n1 dq osq
                have x6 := n6 dq osq
                have hbq := below_regrown (wr.alloc (.cells #[.int .i64 (gi (gl os k) 0), .int .i64 (gi (gl os k) 1), .int .i64 (gi (gl os k) 2), .int .i64 (gi (gl os k) 3), .int .i64 (gi (gl os k) 4), .int .i64 (gi (gl os k) 5), .int .i64 (gi (gl os k) 6), .int .i64 (gi (gl os k) 7)] 52)) dq osq
                have hOq := (hO1.below hbq (Nat.le_refl _))
                have hb4 := hb1.trans (hbq.mono hb1.size)
                have hOw := (hO.below hA (Nat.le_refl _)).below hbq hA.size
                obtain ⟨-, fz, hO5, hch⟩ := HFZ.out _ hOw
                generalize grow (redrawn (wr.alloc (.cells #[.int .i64 (gi (gl os k) 0), .int .i64 (gi (gl os k) 1), .int .i64 (gi (gl os k) 2), .int .i64 (gi (gl os k) 3), .int .i64 (gi (gl os k) 4), .int .i64 (gi (gl os k) 5), .int .i64 (gi (gl os k) 6), .int .i64 (gi (gl os k) 7)] 52)) dq) osq = Wq at *
                have HO5 := Lib.hid hO5
                have HCH := Lib.hid hch
                have hwq := hb4.size
                have hzq : wr.heap.size ≤ Wq.heap.size := Nat.le_trans hA.size hbq.size
                have hO7 := hOq.mono (Nat.le_refl _) hbq.size
                clear hO5 hch n0 n1 n2 n3 n6 p2r p3r
                go_wp2
                go_quiet (fail)
                go_wp2_with (first | (at_builtin; (refine wpList_append_pass rfl (.tmp 90) (.tmp 99) rfl _ _ _ _ K (gi (gl os k) 1) (gi (gl os k) 6) r (k : Int) 1 rfl _ rfl (by simp) (OwT.drewN hO7 _) hwq (by omega) ?_; intro v1 w2 hO2 hg2)))
                have hb2 := (below_drewN hb4 _).trans ((OwT.drewN hO7 _).1.grown hg2 (Nat.le_refl _) hwq)
                go_roundw
                case rel => exact ⟨k + 1, (_, _, _), by omega, by go_num, rfl, rfl, HNA.out (by rw [HF.out, h1, h2]; rfl), hO2, hb2⟩
                case measure => simp [intOf]; omega
              · cases h3 : (gi (lastL out) 2 == gi (gl os k) 6)
                · go_wp2_with (go_at_call 66; refine (int_same HPK.out (passKind_any _ _)).mono ?_; rintro e w' ⟨rfl, rfl⟩)
                  refine wp_region_quiet_below (by kernel_rfl) (by kernel_rfl) ?_
                  repeat (go_big_quiet_step (first | (go_at_call_of 67 (Go.Value.agg #[.int .i64 (gi (gl os k) 2), .int .i64 (gi (gl os k) 3)]); exact Calls.regrown_of (PL1.out _)) | (go_at_call_of 67 (Go.Value.agg #[.int .i64 (gi pp 2), .int .i64 (gi pp 3)]); exact Calls.regrown_of (PL2.out _))))
                  refine wpQuiet_nil ?_
                  intro _ hw'
                  obtain ⟨⟨dq, osq⟩, hw''⟩ := hw'
                  subst hw''
                  have k0 := HL0.out dq osq
                  have k1 := HL1.out dq osq
                  have k2 := HL2.out dq osq
                  have k5 := HL5.out dq osq
                  have x1 := n1 dq osq
                  have x6 := n6 dq osq
                  have hbq := below_regrown (wr.alloc (.cells #[.int .i64 (gi (gl os k) 0), .int .i64 (gi (gl os k) 1), .int .i64 (gi (gl os k) 2), .int .i64 (gi (gl os k) 3), .int .i64 (gi (gl os k) 4), .int .i64 (gi (gl os k) 5), .int .i64 (gi (gl os k) 6), .int .i64 (gi (gl os k) 7)] 52)) dq osq
                  have hOq := (hO1.below hbq (Nat.le_refl _))
                  have hb4 := hb1.trans (hbq.mono hb1.size)
                  have hOw := (hO.below hA (Nat.le_refl _)).below hbq hA.size
                  obtain ⟨-, fz, hO5, hch⟩ := HFZ.out _ hOw
                  generalize grow (redrawn (wr.alloc (.cells #[.int .i64 (gi (gl os k) 0), .int .i64 (gi (gl os k) 1), .int .i64 (gi (gl os k) 2), .int .i64 (gi (gl os k) 3), .int .i64 (gi (gl os k) 4), .int .i64 (gi (gl os k) 5), .int .i64 (gi (gl os k) 6), .int .i64 (gi (gl os k) 7)] 52)) dq) osq = Wq at *
                  have HO5 := Lib.hid hO5
                  have HCH := Lib.hid hch
                  have hwq := hb4.size
                  have hzq : wr.heap.size ≤ Wq.heap.size := Nat.le_trans hA.size hbq.size
                  have hO7 := hOq.mono (Nat.le_refl _) hbq.size
                  clear hO5 hch n0 n1 n2 n3 n6 p2r p3r
                  go_wp2
                  go_quiet (fail)
                  go_wp2_with (first | (at_builtin; (refine wpList_append_pass rfl (.tmp 90) (.tmp 99) rfl _ _ _ _ K (gi (gl os k) 1) (gi (gl os k) 6) r (k : Int) 1 rfl _ rfl (by simp) (OwT.drewN hO7 _) hwq (by omega) ?_; intro v1 w2 hO2 hg2)))
                  have hb2 := (below_drewN hb4 _).trans ((OwT.drewN hO7 _).1.grown hg2 (Nat.le_refl _) hwq)
                  go_roundw
                  case rel => exact ⟨k + 1, (_, _, _), by omega, by go_num, rfl, rfl, HNA.out (by rw [HF.out, h1, h2, h3]; rfl), hO2, hb2⟩
                  case measure => simp [intOf]; omega
                · go_wp2_with (go_at_call 66; refine (int_same HPK.out (passKind_any _ _)).mono ?_; rintro e w' ⟨rfl, rfl⟩)
                  refine wp_region_quiet_below (by kernel_rfl) (by kernel_rfl) ?_
                  repeat (go_big_quiet_step (first | (go_at_call_of 67 (Go.Value.agg #[.int .i64 (gi (gl os k) 2), .int .i64 (gi (gl os k) 3)]); exact Calls.regrown_of (PL1.out _)) | (go_at_call_of 67 (Go.Value.agg #[.int .i64 (gi pp 2), .int .i64 (gi pp 3)]); exact Calls.regrown_of (PL2.out _))))
                  refine wpQuiet_nil ?_
                  intro _ hw'
                  obtain ⟨⟨dq, osq⟩, hw''⟩ := hw'
                  subst hw''
                  have k0 := HL0.out dq osq
                  have k1 := HL1.out dq osq
                  have k2 := HL2.out dq osq
                  have k5 := HL5.out dq osq
                  have x1 := n1 dq osq
                  have x6 := n6 dq osq
                  have hbq := below_regrown (wr.alloc (.cells #[.int .i64 (gi (gl os k) 0), .int .i64 (gi (gl os k) 1), .int .i64 (gi (gl os k) 2), .int .i64 (gi (gl os k) 3), .int .i64 (gi (gl os k) 4), .int .i64 (gi (gl os k) 5), .int .i64 (gi (gl os k) 6), .int .i64 (gi (gl os k) 7)] 52)) dq osq
                  have hOq := (hO1.below hbq (Nat.le_refl _))
                  have hb4 := hb1.trans (hbq.mono hb1.size)
                  have hOw := (hO.below hA (Nat.le_refl _)).below hbq hA.size
                  obtain ⟨-, fz, hO5, hch⟩ := HFZ.out _ hOw
                  generalize grow (redrawn (wr.alloc (.cells #[.int .i64 (gi (gl os k) 0), .int .i64 (gi (gl os k) 1), .int .i64 (gi (gl os k) 2), .int .i64 (gi (gl os k) 3), .int .i64 (gi (gl os k) 4), .int .i64 (gi (gl os k) 5), .int .i64 (gi (gl os k) 6), .int .i64 (gi (gl os k) 7)] 52)) dq) osq = Wq at *
                  have HO5 := Lib.hid hO5
                  have HCH := Lib.hid hch
                  have hwq := hb4.size
                  have hzq : wr.heap.size ≤ Wq.heap.size := Nat.le_trans hA.size hbq.size
                  have hO7 := hOq.mono (Nat.le_refl _) hbq.size
                  clear hO5 hch n0 n1 n2 n3 n6 p2r p3r
                  go_wp2
                  go_quiet (fail)
                  go_wp2
                  go_roundw
                  case rel =>
                    obtain ⟨-, -, O5, C5⟩ := HFZ.out _ (OwT.drewN hOw nq)
                    exact ⟨k + 1, (_, _, _), by omega, by go_num, rfl, rfl, HNS.out (by rw [HF.out, h1, h2, h3, hK1]; rfl), O5.mono (Nat.le_refl _) (Nat.le_trans hzq C5.size), (below_drewN hb4 nq).trans (C5.below (Nat.le_refl _) hwq)⟩
                  case measure => simp [intOf]; omega
      · have hKz : K = 0 := by simpa using h0
        cases h7 : (gi (gl os k) 0 == 7)
        · have HS2 := Lib.hid (show psUp os (k + 1) = (out, r, false) by rw [HN.out, psNext, HPK.out, if_pos hKz, HRK.out, if_neg (by simpa using h7)])
          go_wp2_with (go_at_call 66; refine (int_same HPK.out (passKind_any _ _)).mono ?_; rintro e w' ⟨rfl, rfl⟩)
          go_roundw
          case rel => exact ⟨k + 1, (out, r, false), by omega, by go_num, rfl, rfl, HS2.out, hO1, hb1⟩
          case measure => simp [intOf]; omega
        · have HS2 := Lib.hid (show psUp os (k + 1) = (out, gi (gl os k) 7, false) by rw [HN.out, psNext, HPK.out, if_pos hKz, HRK.out, if_pos (by simpa using h7)])
          go_wp2_with (go_at_call 66; refine (int_same HPK.out (passKind_any _ _)).mono ?_; rintro e w' ⟨rfl, rfl⟩)
          go_roundw
          case rel => exact ⟨k + 1, (out, gi (gl os k) 7, false), by omega, by go_num, rfl, rfl, HS2.out, hO1, hb1⟩
          case measure => simp [intOf]; omega
    · obtain rfl : k = os.length := by omega
      go_wp2
      go_ret
      exact ⟨_, rfl, by rw [HS.out]; exact hO, hb⟩
end Go.Proofs.Ytpiodiliifnckaa
