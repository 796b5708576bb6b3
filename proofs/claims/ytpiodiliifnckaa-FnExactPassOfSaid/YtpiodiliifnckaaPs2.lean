/-
  Contract: the passes of operations (the reference's l09Passes).
-/
import Derived.Test.YtpiodiliifnckaaPs
namespace Go.Proofs.Ytpiodiliifnckaa
set_option maxRecDepth 10000
open Go.RowKit Go.Sort

set_option maxHeartbeats 1600000 in
theorem l09Kind_any (k d fb fa tb ta c r : Int) (b o : Nat) (w : World) (h : OpAt w b o k d fb fa tb ta c r) : Calls Try.prog 64 #[.pointer (some ⟨b, o, none⟩)] w fun e w' => e = .returned (.int .i64 (passK k)) ∧ w = w' := by
  obtain ⟨q0, q1, q2, q3, q4, q5, q6, q7⟩ := h
  unfold passK
  by_cases h1 : k = 1
  · subst h1
    go_enter Try.func64, Try.ntmps64
    go_wp2
    go_ret
    exact ⟨by simp, rfl⟩
  by_cases h2 : k = 2
  · subst h2
    go_enter Try.func64, Try.ntmps64
    go_wp2
    go_ret
    exact ⟨by simp, rfl⟩
  by_cases h3 : k = 3
  · subst h3
    go_enter Try.func64, Try.ntmps64
    go_wp2
    go_ret
    exact ⟨by simp, rfl⟩
  by_cases h5 : k = 5
  · subst h5
    go_enter Try.func64, Try.ntmps64
    go_wp2
    go_ret
    exact ⟨by simp, rfl⟩
  by_cases h4 : k = 4
  · subst h4
    go_enter Try.func64, Try.ntmps64
    go_wp2
    go_ret
    exact ⟨by simp, rfl⟩
  by_cases h6 : k = 6
  · subst h6
    go_enter Try.func64, Try.ntmps64
    go_wp2
    go_ret
    exact ⟨by simp, rfl⟩
  have b1 : (k == 1) = false := by simp [h1]
  have b2 : (k == 2) = false := by simp [h2]
  have b3 : (k == 3) = false := by simp [h3]
  have b4 : (k == 4) = false := by simp [h4]
  have b5 : (k == 5) = false := by simp [h5]
  have b6 : (k == 6) = false := by simp [h6]
  go_enter Try.func64, Try.ntmps64
  go_wp2
  go_ret
  exact ⟨by first | rfl | (rw [if_neg (by omega), if_neg (by omega), if_neg (by omega)]), rfl⟩
set_option maxHeartbeats 800000 in
theorem l07Place_any (b a r : Int) (w : World) (h1 : 0 ≤ a ∧ a ≤ 23) (h2 : -3 ≤ r ∧ r ≤ 3) : Calls Try.prog 65 #[.agg #[.int .i64 b, .int .i64 a], .int .i64 r] w fun e w' => e = .returned (.int .i64 (placeF b a r)) ∧ Below w.heap.size w w' := by
  obtain ⟨a0, a1⟩ := h1
  obtain ⟨r0, r1⟩ := h2
  unfold placeF
  by_cases hb : b = 2
  · subst hb
    go_enter Try.func65, Try.ntmps65
    go_wp2
    go_ret
    exact ⟨by simp, al1 _ _⟩
  · have hbb : (b == 2) = false := by simp [hb]
    go_enter Try.func65, Try.ntmps65
    go_wp2
    go_ret
    exact ⟨by first | rfl | rw [if_neg hb], al1 _ _⟩
theorem op_still {o : List Int} (h : opB o = true) (hk : passK (gi o 0) = 2 ∨ passK (gi o 0) = 3) : gi o 1 = 0 ∧ gi o 6 = 0 := by
  have hb := op_bds h
  unfold opB at h
  generalize gi o 0 = k at *
  generalize gi o 1 = d at *
  generalize gi o 6 = c at *
  have h46 : k = 4 ∨ k = 6 := by
    unfold passK at hk
    split at hk
    · omega
    · split at hk
      · omega
      · split at hk <;> omega
  rcases h46 with rfl | rfl
  · simp [vOp] at h
    omega
  · simp [vOp] at h
    omega
set_option maxRecDepth 100000 in
set_option maxHeartbeats 16000000 in
theorem l09Passes_any (v : Value) (os : List (List Int)) (B : Nat) (w : World) (h : SlR 8 w B v os) (hB : B ≤ w.heap.size) (hok : okOps 24 os = true) :
    Calls Try.prog 48 #[v] w fun e w' => ∃ r, e = .returned r ∧ OwT 6 42 w' w.heap.size w'.heap.size r (psUp os os.length).1 ∧ Below w.heap.size w w' := by
  obtain ⟨A, c, rfl, hl, hm, -, hcells⟩ := id h
  unfold maxLen at hm
  have HC := Lib.hid hcells
  have HK := Lib.hid hok
  have h15 := (okOps_parts hok).2.1
  clear hcells hok
  have hO := OwT.empty 6 42 w
  have hb := al1 w (.cells #[] 42)
  go_enter Try.func48, Try.ntmps48
  go_wp2
  go_loopw [3, 4, 5, 6, 7] (fun o r l op i wr => ∃ (k : Nat) (S : List (List Int) × Int × Bool) (ll : Int), k ≤ os.length ∧ i = .int .i64 k ∧ r = .int .i64 S.2.1 ∧ op = .bool S.2.2 ∧ l = .int .i64 ll ∧ (S.2.2 = true → ll = placeF (gi (gl os (k - 1)) 2) (gi (gl os (k - 1)) 3) S.2.1) ∧ psUp os k = S ∧ OwT 6 42 wr w.heap.size wr.heap.size o S.1 ∧ Below w.heap.size w wr) (fun _ _ _ _ i _ => os.length - (intOf i).toNat)
  case atStart => exact ⟨0, ([], 0, false), 0, Nat.zero_le _, rfl, rfl, rfl, rfl, (fun hh => by cases hh), rfl, hO, hb⟩
  case round =>
    obtain ⟨k, ⟨out, r, op⟩, ll, hk, rfl, rfl, rfl, rfl, hll, hS, hO, hb⟩ := hrel
    have hinv := psUp_inv HK.out k hk
    rw [hS] at hinv
    have HS := Lib.hid hS
    have HLL := Lib.hid hll
    clear hS hll
    by_cases hlt : k < os.length
    · obtain ⟨i1, i2, i3, i4⟩ := hinv
      simp only at i1 i2 i3 i4 hO
      have HR := Lib.hid i2
      obtain ⟨b, off, rfl, hbB, hcell⟩ := HC.out (by omega)
      have Q := Lib.hid (opAt_of (fun j hj => (show wr.cell? ⟨b, off + k * 8 + j, none⟩ = some (.int .i64 (gi (gl os k) j)) by rw [hb.cell (by simp only; omega)]; exact hcell k hlt j hj)))
      obtain ⟨q0, q1, q2, q3, q4, q5, q6, q7⟩ := Q.out
      have hopk := (okOps_parts HK.out).2.2 k hlt
      have hbd := op_bds hopk.1
      have HOPK := Lib.hid hopk.1
      have HBD := Lib.hid hbd
      have hK := passK_cases _ hbd.1
      have hstill := op_still (o := gl os k) hopk.1
      have HN := Lib.hid (show psUp os (k + 1) = psNext (gl os k) (gl os (k - 1)) k out (rackOf (gl os k) r) op by rw [psUp, HS.out])
      have HRK := Lib.hid (show rackOf (gl os k) r = if gi (gl os k) 0 = 7 then gi (gl os k) 7 else r from rfl)
      have HKK := Lib.hid hK
      have HST := Lib.hid hstill
      have hblk : b < wr.heap.size := by have := hb.size; omega
      clear hcell i2 hbd hK hopk hstill
      generalize hPK : passK (gi (gl os k) 0) = K at *
      have HPK := Lib.hid hPK
      clear hPK
      have hw1 := hb.size
      cases h0 : (K == 0)
      · have hk7 : (gi (gl os k) 0 == 7) = false := by have := HKK.out; have := HBD.out.1; simp at h0; simp; omega
        have hK0 : K ≠ 0 := by simpa using h0
        have HR0 := Lib.hid (show rackOf (gl os k) r = r by rw [HRK.out, if_neg (by simpa using hk7)])
        have HNA := Lib.hid (fun (hf : (op && fitsP K (gl os k) (gl os (k - 1)) r (lastL out)) = false) => show psUp os (k + 1) = (out ++ [[K, gi (gl os k) 1, gi (gl os k) 6, r, (k : Int), 1]], r, true) by rw [HN.out, HR0.out, psNext, HPK.out, if_neg hK0, if_neg (by rw [hf]; exact Bool.false_ne_true)])
        have HNS := Lib.hid (fun (hf : (op && fitsP K (gl os k) (gl os (k - 1)) r (lastL out)) = true) => show psUp os (k + 1) = (out.set (out.length - 1) ((lastL out).set 5 (gi (lastL out) 5 + 1)), r, true) by rw [HN.out, HR0.out, psNext, HPK.out, if_neg hK0, if_pos hf])
        obtain ⟨-, ⟨a1, a1'⟩, -, ⟨a3, a3'⟩, -, -, ⟨a6, a6'⟩, -⟩ := HBD.out
        have hp1 := placeF_bd (b := gi (gl os k) 2) ⟨a3, a3'⟩ i3
        have PL1 := Lib.hid (fun w => l07Place_any (gi (gl os k) 2) (gi (gl os k) 3) r w ⟨a3, a3'⟩ i3)
        obtain ⟨P10, P11⟩ := hp1
        have HP1 := Lib.hid (show placeF (gi (gl os k) 2) (gi (gl os k) 3) r = placeF (gi (gl os k) 2) (gi (gl os k) 3) r from rfl)
        cases op
        · cases hK1 : (K == 1)
          · go_wp2_with fail
            refine (int_same HPK.out (l09Kind_any _ _ _ _ _ _ _ _ b _ _ Q.out)).mono ?_
            rintro e w' ⟨rfl, rfl⟩
            go_wp2_with fail
            refine (PL1.out _).mono ?_
            rintro e w3 ⟨rfl, hbp⟩
            have hq3 : ∀ (o : Nat) (v : Value), wr.cell? ⟨b, o, none⟩ = some v → w3.cell? ⟨b, o, none⟩ = some v := fun o v hv => by rw [hbp.cell hblk]; exact hv
            replace q0 := hq3 _ _ q0
            replace q1 := hq3 _ _ q1
            replace q6 := hq3 _ _ q6
            have hO3 := (hO.below hbp (Nat.le_refl _)).mono (Nat.le_refl _) hbp.size
            have hb3 := hb.trans (hbp.mono hw1)
            have hw3 := hb3.size
            have hblk3 : b < w3.heap.size := Nat.lt_of_lt_of_le hblk hbp.size
            clear hq3
            obtain ⟨z1, z6⟩ := HST.out (by have := HKK.out; simp at hK1; omega)
            have hax := al1 w3 (.cells #[.int .i64 K, .int .i64 0, .int .i64 0, .int .i64 r, .int .i64 k, .int .i64 1] 42)
            have ho4 := (hO3.below hax (Nat.le_refl _)).mono (Nat.le_refl _) hax.size
            have hb4 := hb3.trans (hax.mono hw3)
            go_wp2_with (at_builtin; refine wpList_append_pass rfl (.tmp 116) (.tmp 118) rfl _ _ _ _ K 0 0 r (k : Int) 1 rfl _ rfl (by simp) ho4 hb4.size (by omega) ?_; intro v1 w5 hO5 hg5)
            have hb5 := hb4.trans (ho4.1.grown hg5 (Nat.le_refl _) hb4.size)
            go_roundw
            case rel => exact ⟨k + 1, (out ++ [[K, 0, 0, r, (k : Int), 1]], r, true), _, by omega, by go_num, rfl, rfl, rfl, (fun _ => rfl), (by have := HNA.out (by simp); rw [z1, z6] at this; exact this), hO5, hb5⟩
            case measure => simp [intOf]; omega
          · go_wp2_with fail
            refine (int_same HPK.out (l09Kind_any _ _ _ _ _ _ _ _ b _ _ Q.out)).mono ?_
            rintro e w' ⟨rfl, rfl⟩
            go_wp2_with fail
            refine (PL1.out _).mono ?_
            rintro e w3 ⟨rfl, hbp⟩
            have hq3 : ∀ (o : Nat) (v : Value), wr.cell? ⟨b, o, none⟩ = some v → w3.cell? ⟨b, o, none⟩ = some v := fun o v hv => by rw [hbp.cell hblk]; exact hv
            replace q0 := hq3 _ _ q0
            replace q1 := hq3 _ _ q1
            replace q6 := hq3 _ _ q6
            have hO3 := (hO.below hbp (Nat.le_refl _)).mono (Nat.le_refl _) hbp.size
            have hb3 := hb.trans (hbp.mono hw1)
            have hw3 := hb3.size
            have hblk3 : b < w3.heap.size := Nat.lt_of_lt_of_le hblk hbp.size
            clear hq3
            have hax := al1 w3 (.cells #[.int .i64 K, .int .i64 (gi (gl os k) 1), .int .i64 (gi (gl os k) 6), .int .i64 r, .int .i64 k, .int .i64 1] 42)
            have ho4 := (hO3.below hax (Nat.le_refl _)).mono (Nat.le_refl _) hax.size
            have hb4 := hb3.trans (hax.mono hw3)
            go_wp2_with (at_builtin; refine wpList_append_pass rfl (.tmp 116) (.tmp 118) rfl _ _ _ _ K (gi (gl os k) 1) (gi (gl os k) 6) r (k : Int) 1 rfl _ rfl (by simp) ho4 hb4.size (by omega) ?_; intro v1 w5 hO5 hg5)
            have hb5 := hb4.trans (ho4.1.grown hg5 (Nat.le_refl _) hb4.size)
            go_roundw
            case rel => exact ⟨k + 1, (out ++ [[K, (gi (gl os k) 1), (gi (gl os k) 6), r, (k : Int), 1]], r, true), _, by omega, by go_num, rfl, rfl, rfl, (fun _ => rfl), (by have := HNA.out (by simp); exact this), hO5, hb5⟩
            case measure => simp [intOf]; omega
        · obtain ⟨j1, j2⟩ := i4 rfl
          obtain ⟨g, cap, hv, hg1, hg2'⟩ := hO.shape j1
          subst hv
          have hll2 := HLL.out rfl
          subst hll2
          have hlm : lastL out ∈ out := gl_mem (by omega)
          obtain ⟨hl6, -, -, ⟨a5, a5'⟩, -⟩ := HR.out _ hlm
          obtain ⟨-, -, -, ⟨b3, b3'⟩, -, -, -, -⟩ := op_bds ((okOps_parts HK.out).2.2 (k - 1) (by omega)).1
          have hF : fitsP K (gl os k) (gl os (k - 1)) r (lastL out) = ((gi (lastL out) 0 == K) && ((gi (lastL out) 1 == gi (gl os k) 1) && ((gi (lastL out) 2 == gi (gl os k) 6) && (K != 1 || decide (0 < (placeF (gi (gl os k) 2) (gi (gl os k) 3) r - placeF (gi (gl os (k - 1)) 2) (gi (gl os (k - 1)) 3) r) * gi (gl os k) 1))))) := rfl
          have hp2 := placeF_bd (b := gi (gl os (k - 1)) 2) ⟨b3, b3'⟩ i3
          generalize hP1 : placeF (gi (gl os k) 2) (gi (gl os k) 3) r = P1 at *
          generalize placeF (gi (gl os (k - 1)) 2) (gi (gl os (k - 1)) 3) r = P2 at *
          have HPP := Lib.hid hP1
          obtain ⟨m0, m1⟩ := mul_bd ⟨P10, P11⟩ hp2 ⟨a1, a1'⟩
          obtain ⟨P20, P21⟩ := hp2
          have HF := Lib.hid hF
          clear hF hlm hP1
          generalize gl os (k - 1) = pp at *
          have HL := Lib.hid (fun (W' : World) (lo hi : Nat) (hW : OwT 6 42 W' lo hi (.slice (some ⟨g, 0, none⟩) out.length cap) out) (j : Nat) (hj : j < 6) (x : Int) => show W'.cell? ⟨g, (out.length - 1) * 6 + j, none⟩ = some (.int .i64 (gi (lastL out) j)) ∧ W'.frozen? ⟨g, (out.length - 1) * 6 + j, none⟩ = false ∧ OwT 6 42 (W'.setCell ⟨g, (out.length - 1) * 6 + j, none⟩ (.int .i64 x)) lo hi (.slice (some ⟨g, 0, none⟩) out.length cap) (out.set (out.length - 1) ((lastL out).set j x)) ∧ Chg lo hi W' (W'.setCell ⟨g, (out.length - 1) * 6 + j, none⟩ (.int .i64 x)) from hW.set1 rfl (out.length - 1) j (by omega) hj x)
          cases h1 : (gi (lastL out) 0 == K)
          · cases hK1 : (K == 1)
            · go_wp2_with fail
              refine (int_same HPK.out (l09Kind_any _ _ _ _ _ _ _ _ b _ _ Q.out)).mono ?_
              rintro e w' ⟨rfl, rfl⟩
              go_wp2_with fail
              refine (PL1.out _).mono ?_
              rintro e w3 ⟨rfl, hbp⟩
              have hq3 : ∀ (o : Nat) (v : Value), wr.cell? ⟨b, o, none⟩ = some v → w3.cell? ⟨b, o, none⟩ = some v := fun o v hv => by rw [hbp.cell hblk]; exact hv
              replace q0 := hq3 _ _ q0
              replace q1 := hq3 _ _ q1
              replace q6 := hq3 _ _ q6
              have hO3 := (hO.below hbp (Nat.le_refl _)).mono (Nat.le_refl _) hbp.size
              have hb3 := hb.trans (hbp.mono hw1)
              have hw3 := hb3.size
              have hblk3 : b < w3.heap.size := Nat.lt_of_lt_of_le hblk hbp.size
              clear hq3
              obtain ⟨l0, -⟩ := HL.out _ _ _ hO3 0 (by omega) 0
              obtain ⟨l1, -⟩ := HL.out _ _ _ hO3 1 (by omega) 0
              obtain ⟨l2, -⟩ := HL.out _ _ _ hO3 2 (by omega) 0
              obtain ⟨l5, fz, -⟩ := HL.out _ _ _ hO3 5 (by omega) 0
              rw [Nat.add_zero] at l0
              go_wp2
              go_quiet (fail)
              have hO6 : OwT 6 42 (w3.drewN nq) w.heap.size (w3.drewN nq).heap.size (.slice (some ⟨g, 0, none⟩) out.length cap) out := hO3
              have hb6 : Below w.heap.size w (w3.drewN nq) := below_drewN hb3 nq
              have s1 : (w3.drewN nq).cell? ⟨b, off + k * 8 + 1, none⟩ = some (.int .i64 (gi (gl os k) 1)) := q1
              have s6 : (w3.drewN nq).cell? ⟨b, off + k * 8 + 6, none⟩ = some (.int .i64 (gi (gl os k) 6)) := q6
              have s5 : (w3.drewN nq).cell? ⟨g, (out.length - 1) * 6 + 5, none⟩ = some (.int .i64 (gi (lastL out) 5)) := l5
              have sz : (w3.drewN nq).frozen? ⟨g, (out.length - 1) * 6 + 5, none⟩ = false := fz
              have hblk6 : b < (w3.drewN nq).heap.size := hblk3
              have hw6 : w.heap.size ≤ (w3.drewN nq).heap.size := hw3
              clear q1 q6 l0 l1 l2 l5 fz hO3 hb3 hw3 hblk3 hbp
              generalize w3.drewN nq = wq at *
              obtain ⟨z1, z6⟩ := HST.out (by have := HKK.out; simp at hK1; omega)
              have hax := al1 wq (.cells #[.int .i64 K, .int .i64 0, .int .i64 0, .int .i64 r, .int .i64 k, .int .i64 1] 42)
              have ho4 := (hO6.below hax (Nat.le_refl _)).mono (Nat.le_refl _) hax.size
              have hb4 := hb6.trans (hax.mono hw6)
              go_wp2_with (at_builtin; refine wpList_append_pass rfl (.tmp 116) (.tmp 118) rfl _ _ _ _ K 0 0 r (k : Int) 1 rfl _ rfl (by simp) ho4 hb4.size (by omega) ?_; intro v1 w5 hO5 hg5)
              have hb5 := hb4.trans (ho4.1.grown hg5 (Nat.le_refl _) hb4.size)
              go_roundw
              case rel => exact ⟨k + 1, (out ++ [[K, 0, 0, r, (k : Int), 1]], r, true), _, by omega, by go_num, rfl, rfl, rfl, (fun _ => HPP.out.symm), (by have := HNA.out (by rw [HF.out, h1]; rfl); rw [z1, z6] at this; exact this), hO5, hb5⟩
              case measure => simp [intOf]; omega
            · go_wp2_with fail
              refine (int_same HPK.out (l09Kind_any _ _ _ _ _ _ _ _ b _ _ Q.out)).mono ?_
              rintro e w' ⟨rfl, rfl⟩
              go_wp2_with fail
              refine (PL1.out _).mono ?_
              rintro e w3 ⟨rfl, hbp⟩
              have hq3 : ∀ (o : Nat) (v : Value), wr.cell? ⟨b, o, none⟩ = some v → w3.cell? ⟨b, o, none⟩ = some v := fun o v hv => by rw [hbp.cell hblk]; exact hv
              replace q0 := hq3 _ _ q0
              replace q1 := hq3 _ _ q1
              replace q6 := hq3 _ _ q6
              have hO3 := (hO.below hbp (Nat.le_refl _)).mono (Nat.le_refl _) hbp.size
              have hb3 := hb.trans (hbp.mono hw1)
              have hw3 := hb3.size
              have hblk3 : b < w3.heap.size := Nat.lt_of_lt_of_le hblk hbp.size
              clear hq3
              obtain ⟨l0, -⟩ := HL.out _ _ _ hO3 0 (by omega) 0
              obtain ⟨l1, -⟩ := HL.out _ _ _ hO3 1 (by omega) 0
              obtain ⟨l2, -⟩ := HL.out _ _ _ hO3 2 (by omega) 0
              obtain ⟨l5, fz, -⟩ := HL.out _ _ _ hO3 5 (by omega) 0
              rw [Nat.add_zero] at l0
              go_wp2
              go_quiet (fail)
              have hO6 : OwT 6 42 (w3.drewN nq) w.heap.size (w3.drewN nq).heap.size (.slice (some ⟨g, 0, none⟩) out.length cap) out := hO3
              have hb6 : Below w.heap.size w (w3.drewN nq) := below_drewN hb3 nq
              have s1 : (w3.drewN nq).cell? ⟨b, off + k * 8 + 1, none⟩ = some (.int .i64 (gi (gl os k) 1)) := q1
              have s6 : (w3.drewN nq).cell? ⟨b, off + k * 8 + 6, none⟩ = some (.int .i64 (gi (gl os k) 6)) := q6
              have s5 : (w3.drewN nq).cell? ⟨g, (out.length - 1) * 6 + 5, none⟩ = some (.int .i64 (gi (lastL out) 5)) := l5
              have sz : (w3.drewN nq).frozen? ⟨g, (out.length - 1) * 6 + 5, none⟩ = false := fz
              have hblk6 : b < (w3.drewN nq).heap.size := hblk3
              have hw6 : w.heap.size ≤ (w3.drewN nq).heap.size := hw3
              clear q1 q6 l0 l1 l2 l5 fz hO3 hb3 hw3 hblk3 hbp
              generalize w3.drewN nq = wq at *
              have hax := al1 wq (.cells #[.int .i64 K, .int .i64 (gi (gl os k) 1), .int .i64 (gi (gl os k) 6), .int .i64 r, .int .i64 k, .int .i64 1] 42)
              have ho4 := (hO6.below hax (Nat.le_refl _)).mono (Nat.le_refl _) hax.size
              have hb4 := hb6.trans (hax.mono hw6)
              go_wp2_with (at_builtin; refine wpList_append_pass rfl (.tmp 116) (.tmp 118) rfl _ _ _ _ K (gi (gl os k) 1) (gi (gl os k) 6) r (k : Int) 1 rfl _ rfl (by simp) ho4 hb4.size (by omega) ?_; intro v1 w5 hO5 hg5)
              have hb5 := hb4.trans (ho4.1.grown hg5 (Nat.le_refl _) hb4.size)
              go_roundw
              case rel => exact ⟨k + 1, (out ++ [[K, (gi (gl os k) 1), (gi (gl os k) 6), r, (k : Int), 1]], r, true), _, by omega, by go_num, rfl, rfl, rfl, (fun _ => HPP.out.symm), (by have := HNA.out (by rw [HF.out, h1]; rfl); exact this), hO5, hb5⟩
              case measure => simp [intOf]; omega
          · cases h2 : (gi (lastL out) 1 == gi (gl os k) 1)
            · cases hK1 : (K == 1)
              · go_wp2_with fail
                refine (int_same HPK.out (l09Kind_any _ _ _ _ _ _ _ _ b _ _ Q.out)).mono ?_
                rintro e w' ⟨rfl, rfl⟩
                go_wp2_with fail
                refine (PL1.out _).mono ?_
                rintro e w3 ⟨rfl, hbp⟩
                have hq3 : ∀ (o : Nat) (v : Value), wr.cell? ⟨b, o, none⟩ = some v → w3.cell? ⟨b, o, none⟩ = some v := fun o v hv => by rw [hbp.cell hblk]; exact hv
                replace q0 := hq3 _ _ q0
                replace q1 := hq3 _ _ q1
                replace q6 := hq3 _ _ q6
                have hO3 := (hO.below hbp (Nat.le_refl _)).mono (Nat.le_refl _) hbp.size
                have hb3 := hb.trans (hbp.mono hw1)
                have hw3 := hb3.size
                have hblk3 : b < w3.heap.size := Nat.lt_of_lt_of_le hblk hbp.size
                clear hq3
                obtain ⟨l0, -⟩ := HL.out _ _ _ hO3 0 (by omega) 0
                obtain ⟨l1, -⟩ := HL.out _ _ _ hO3 1 (by omega) 0
                obtain ⟨l2, -⟩ := HL.out _ _ _ hO3 2 (by omega) 0
                obtain ⟨l5, fz, -⟩ := HL.out _ _ _ hO3 5 (by omega) 0
                rw [Nat.add_zero] at l0
                go_wp2
                go_quiet (fail)
                have hO6 : OwT 6 42 (w3.drewN nq) w.heap.size (w3.drewN nq).heap.size (.slice (some ⟨g, 0, none⟩) out.length cap) out := hO3
                have hb6 : Below w.heap.size w (w3.drewN nq) := below_drewN hb3 nq
                have s1 : (w3.drewN nq).cell? ⟨b, off + k * 8 + 1, none⟩ = some (.int .i64 (gi (gl os k) 1)) := q1
                have s6 : (w3.drewN nq).cell? ⟨b, off + k * 8 + 6, none⟩ = some (.int .i64 (gi (gl os k) 6)) := q6
                have s5 : (w3.drewN nq).cell? ⟨g, (out.length - 1) * 6 + 5, none⟩ = some (.int .i64 (gi (lastL out) 5)) := l5
                have sz : (w3.drewN nq).frozen? ⟨g, (out.length - 1) * 6 + 5, none⟩ = false := fz
                have hblk6 : b < (w3.drewN nq).heap.size := hblk3
                have hw6 : w.heap.size ≤ (w3.drewN nq).heap.size := hw3
                clear q1 q6 l0 l1 l2 l5 fz hO3 hb3 hw3 hblk3 hbp
                generalize w3.drewN nq = wq at *
                obtain ⟨z1, z6⟩ := HST.out (by have := HKK.out; simp at hK1; omega)
                have hax := al1 wq (.cells #[.int .i64 K, .int .i64 0, .int .i64 0, .int .i64 r, .int .i64 k, .int .i64 1] 42)
                have ho4 := (hO6.below hax (Nat.le_refl _)).mono (Nat.le_refl _) hax.size
                have hb4 := hb6.trans (hax.mono hw6)
                go_wp2_with (at_builtin; refine wpList_append_pass rfl (.tmp 116) (.tmp 118) rfl _ _ _ _ K 0 0 r (k : Int) 1 rfl _ rfl (by simp) ho4 hb4.size (by omega) ?_; intro v1 w5 hO5 hg5)
                have hb5 := hb4.trans (ho4.1.grown hg5 (Nat.le_refl _) hb4.size)
                go_roundw
                case rel => exact ⟨k + 1, (out ++ [[K, 0, 0, r, (k : Int), 1]], r, true), _, by omega, by go_num, rfl, rfl, rfl, (fun _ => HPP.out.symm), (by have := HNA.out (by rw [HF.out, h1, h2]; rfl); rw [z1, z6] at this; exact this), hO5, hb5⟩
                case measure => simp [intOf]; omega
              · go_wp2_with fail
                refine (int_same HPK.out (l09Kind_any _ _ _ _ _ _ _ _ b _ _ Q.out)).mono ?_
                rintro e w' ⟨rfl, rfl⟩
                go_wp2_with fail
                refine (PL1.out _).mono ?_
                rintro e w3 ⟨rfl, hbp⟩
                have hq3 : ∀ (o : Nat) (v : Value), wr.cell? ⟨b, o, none⟩ = some v → w3.cell? ⟨b, o, none⟩ = some v := fun o v hv => by rw [hbp.cell hblk]; exact hv
                replace q0 := hq3 _ _ q0
                replace q1 := hq3 _ _ q1
                replace q6 := hq3 _ _ q6
                have hO3 := (hO.below hbp (Nat.le_refl _)).mono (Nat.le_refl _) hbp.size
                have hb3 := hb.trans (hbp.mono hw1)
                have hw3 := hb3.size
                have hblk3 : b < w3.heap.size := Nat.lt_of_lt_of_le hblk hbp.size
                clear hq3
                obtain ⟨l0, -⟩ := HL.out _ _ _ hO3 0 (by omega) 0
                obtain ⟨l1, -⟩ := HL.out _ _ _ hO3 1 (by omega) 0
                obtain ⟨l2, -⟩ := HL.out _ _ _ hO3 2 (by omega) 0
                obtain ⟨l5, fz, -⟩ := HL.out _ _ _ hO3 5 (by omega) 0
                rw [Nat.add_zero] at l0
                go_wp2
                go_quiet (fail)
                have hO6 : OwT 6 42 (w3.drewN nq) w.heap.size (w3.drewN nq).heap.size (.slice (some ⟨g, 0, none⟩) out.length cap) out := hO3
                have hb6 : Below w.heap.size w (w3.drewN nq) := below_drewN hb3 nq
                have s1 : (w3.drewN nq).cell? ⟨b, off + k * 8 + 1, none⟩ = some (.int .i64 (gi (gl os k) 1)) := q1
                have s6 : (w3.drewN nq).cell? ⟨b, off + k * 8 + 6, none⟩ = some (.int .i64 (gi (gl os k) 6)) := q6
                have s5 : (w3.drewN nq).cell? ⟨g, (out.length - 1) * 6 + 5, none⟩ = some (.int .i64 (gi (lastL out) 5)) := l5
                have sz : (w3.drewN nq).frozen? ⟨g, (out.length - 1) * 6 + 5, none⟩ = false := fz
                have hblk6 : b < (w3.drewN nq).heap.size := hblk3
                have hw6 : w.heap.size ≤ (w3.drewN nq).heap.size := hw3
                clear q1 q6 l0 l1 l2 l5 fz hO3 hb3 hw3 hblk3 hbp
                generalize w3.drewN nq = wq at *
                have hax := al1 wq (.cells #[.int .i64 K, .int .i64 (gi (gl os k) 1), .int .i64 (gi (gl os k) 6), .int .i64 r, .int .i64 k, .int .i64 1] 42)
                have ho4 := (hO6.below hax (Nat.le_refl _)).mono (Nat.le_refl _) hax.size
                have hb4 := hb6.trans (hax.mono hw6)
                go_wp2_with (at_builtin; refine wpList_append_pass rfl (.tmp 116) (.tmp 118) rfl _ _ _ _ K (gi (gl os k) 1) (gi (gl os k) 6) r (k : Int) 1 rfl _ rfl (by simp) ho4 hb4.size (by omega) ?_; intro v1 w5 hO5 hg5)
                have hb5 := hb4.trans (ho4.1.grown hg5 (Nat.le_refl _) hb4.size)
                go_roundw
                case rel => exact ⟨k + 1, (out ++ [[K, (gi (gl os k) 1), (gi (gl os k) 6), r, (k : Int), 1]], r, true), _, by omega, by go_num, rfl, rfl, rfl, (fun _ => HPP.out.symm), (by have := HNA.out (by rw [HF.out, h1, h2]; rfl); exact this), hO5, hb5⟩
                case measure => simp [intOf]; omega
            · cases h3 : (gi (lastL out) 2 == gi (gl os k) 6)
              · cases hK1 : (K == 1)
                · go_wp2_with fail
                  refine (int_same HPK.out (l09Kind_any _ _ _ _ _ _ _ _ b _ _ Q.out)).mono ?_
                  rintro e w' ⟨rfl, rfl⟩
                  go_wp2_with fail
                  refine (PL1.out _).mono ?_
                  rintro e w3 ⟨rfl, hbp⟩
                  have hq3 : ∀ (o : Nat) (v : Value), wr.cell? ⟨b, o, none⟩ = some v → w3.cell? ⟨b, o, none⟩ = some v := fun o v hv => by rw [hbp.cell hblk]; exact hv
                  replace q0 := hq3 _ _ q0
                  replace q1 := hq3 _ _ q1
                  replace q6 := hq3 _ _ q6
                  have hO3 := (hO.below hbp (Nat.le_refl _)).mono (Nat.le_refl _) hbp.size
                  have hb3 := hb.trans (hbp.mono hw1)
                  have hw3 := hb3.size
                  have hblk3 : b < w3.heap.size := Nat.lt_of_lt_of_le hblk hbp.size
                  clear hq3
                  obtain ⟨l0, -⟩ := HL.out _ _ _ hO3 0 (by omega) 0
                  obtain ⟨l1, -⟩ := HL.out _ _ _ hO3 1 (by omega) 0
                  obtain ⟨l2, -⟩ := HL.out _ _ _ hO3 2 (by omega) 0
                  obtain ⟨l5, fz, -⟩ := HL.out _ _ _ hO3 5 (by omega) 0
                  rw [Nat.add_zero] at l0
                  go_wp2
                  go_quiet (fail)
                  have hO6 : OwT 6 42 (w3.drewN nq) w.heap.size (w3.drewN nq).heap.size (.slice (some ⟨g, 0, none⟩) out.length cap) out := hO3
                  have hb6 : Below w.heap.size w (w3.drewN nq) := below_drewN hb3 nq
                  have s1 : (w3.drewN nq).cell? ⟨b, off + k * 8 + 1, none⟩ = some (.int .i64 (gi (gl os k) 1)) := q1
                  have s6 : (w3.drewN nq).cell? ⟨b, off + k * 8 + 6, none⟩ = some (.int .i64 (gi (gl os k) 6)) := q6
                  have s5 : (w3.drewN nq).cell? ⟨g, (out.length - 1) * 6 + 5, none⟩ = some (.int .i64 (gi (lastL out) 5)) := l5
                  have sz : (w3.drewN nq).frozen? ⟨g, (out.length - 1) * 6 + 5, none⟩ = false := fz
                  have hblk6 : b < (w3.drewN nq).heap.size := hblk3
                  have hw6 : w.heap.size ≤ (w3.drewN nq).heap.size := hw3
                  clear q1 q6 l0 l1 l2 l5 fz hO3 hb3 hw3 hblk3 hbp
                  generalize w3.drewN nq = wq at *
                  obtain ⟨z1, z6⟩ := HST.out (by have := HKK.out; simp at hK1; omega)
                  have hax := al1 wq (.cells #[.int .i64 K, .int .i64 0, .int .i64 0, .int .i64 r, .int .i64 k, .int .i64 1] 42)
                  have ho4 := (hO6.below hax (Nat.le_refl _)).mono (Nat.le_refl _) hax.size
                  have hb4 := hb6.trans (hax.mono hw6)
                  go_wp2_with (at_builtin; refine wpList_append_pass rfl (.tmp 116) (.tmp 118) rfl _ _ _ _ K 0 0 r (k : Int) 1 rfl _ rfl (by simp) ho4 hb4.size (by omega) ?_; intro v1 w5 hO5 hg5)
                  have hb5 := hb4.trans (ho4.1.grown hg5 (Nat.le_refl _) hb4.size)
                  go_roundw
                  case rel => exact ⟨k + 1, (out ++ [[K, 0, 0, r, (k : Int), 1]], r, true), _, by omega, by go_num, rfl, rfl, rfl, (fun _ => HPP.out.symm), (by have := HNA.out (by rw [HF.out, h1, h2, h3]; rfl); rw [z1, z6] at this; exact this), hO5, hb5⟩
                  case measure => simp [intOf]; omega
                · go_wp2_with fail
                  refine (int_same HPK.out (l09Kind_any _ _ _ _ _ _ _ _ b _ _ Q.out)).mono ?_
                  rintro e w' ⟨rfl, rfl⟩
                  go_wp2_with fail
                  refine (PL1.out _).mono ?_
                  rintro e w3 ⟨rfl, hbp⟩
                  have hq3 : ∀ (o : Nat) (v : Value), wr.cell? ⟨b, o, none⟩ = some v → w3.cell? ⟨b, o, none⟩ = some v := fun o v hv => by rw [hbp.cell hblk]; exact hv
                  replace q0 := hq3 _ _ q0
                  replace q1 := hq3 _ _ q1
                  replace q6 := hq3 _ _ q6
                  have hO3 := (hO.below hbp (Nat.le_refl _)).mono (Nat.le_refl _) hbp.size
                  have hb3 := hb.trans (hbp.mono hw1)
                  have hw3 := hb3.size
                  have hblk3 : b < w3.heap.size := Nat.lt_of_lt_of_le hblk hbp.size
                  clear hq3
                  obtain ⟨l0, -⟩ := HL.out _ _ _ hO3 0 (by omega) 0
                  obtain ⟨l1, -⟩ := HL.out _ _ _ hO3 1 (by omega) 0
                  obtain ⟨l2, -⟩ := HL.out _ _ _ hO3 2 (by omega) 0
                  obtain ⟨l5, fz, -⟩ := HL.out _ _ _ hO3 5 (by omega) 0
                  rw [Nat.add_zero] at l0
                  go_wp2
                  go_quiet (fail)
                  have hO6 : OwT 6 42 (w3.drewN nq) w.heap.size (w3.drewN nq).heap.size (.slice (some ⟨g, 0, none⟩) out.length cap) out := hO3
                  have hb6 : Below w.heap.size w (w3.drewN nq) := below_drewN hb3 nq
                  have s1 : (w3.drewN nq).cell? ⟨b, off + k * 8 + 1, none⟩ = some (.int .i64 (gi (gl os k) 1)) := q1
                  have s6 : (w3.drewN nq).cell? ⟨b, off + k * 8 + 6, none⟩ = some (.int .i64 (gi (gl os k) 6)) := q6
                  have s5 : (w3.drewN nq).cell? ⟨g, (out.length - 1) * 6 + 5, none⟩ = some (.int .i64 (gi (lastL out) 5)) := l5
                  have sz : (w3.drewN nq).frozen? ⟨g, (out.length - 1) * 6 + 5, none⟩ = false := fz
                  have hblk6 : b < (w3.drewN nq).heap.size := hblk3
                  have hw6 : w.heap.size ≤ (w3.drewN nq).heap.size := hw3
                  clear q1 q6 l0 l1 l2 l5 fz hO3 hb3 hw3 hblk3 hbp
                  generalize w3.drewN nq = wq at *
                  have hax := al1 wq (.cells #[.int .i64 K, .int .i64 (gi (gl os k) 1), .int .i64 (gi (gl os k) 6), .int .i64 r, .int .i64 k, .int .i64 1] 42)
                  have ho4 := (hO6.below hax (Nat.le_refl _)).mono (Nat.le_refl _) hax.size
                  have hb4 := hb6.trans (hax.mono hw6)
                  go_wp2_with (at_builtin; refine wpList_append_pass rfl (.tmp 116) (.tmp 118) rfl _ _ _ _ K (gi (gl os k) 1) (gi (gl os k) 6) r (k : Int) 1 rfl _ rfl (by simp) ho4 hb4.size (by omega) ?_; intro v1 w5 hO5 hg5)
                  have hb5 := hb4.trans (ho4.1.grown hg5 (Nat.le_refl _) hb4.size)
                  go_roundw
                  case rel => exact ⟨k + 1, (out ++ [[K, (gi (gl os k) 1), (gi (gl os k) 6), r, (k : Int), 1]], r, true), _, by omega, by go_num, rfl, rfl, rfl, (fun _ => HPP.out.symm), (by have := HNA.out (by rw [HF.out, h1, h2, h3]; rfl); exact this), hO5, hb5⟩
                  case measure => simp [intOf]; omega
              · cases hK1 : (K == 1)
                · go_wp2_with fail
                  refine (int_same HPK.out (l09Kind_any _ _ _ _ _ _ _ _ b _ _ Q.out)).mono ?_
                  rintro e w' ⟨rfl, rfl⟩
                  go_wp2_with fail
                  refine (PL1.out _).mono ?_
                  rintro e w3 ⟨rfl, hbp⟩
                  have hq3 : ∀ (o : Nat) (v : Value), wr.cell? ⟨b, o, none⟩ = some v → w3.cell? ⟨b, o, none⟩ = some v := fun o v hv => by rw [hbp.cell hblk]; exact hv
                  replace q0 := hq3 _ _ q0
                  replace q1 := hq3 _ _ q1
                  replace q6 := hq3 _ _ q6
                  have hO3 := (hO.below hbp (Nat.le_refl _)).mono (Nat.le_refl _) hbp.size
                  have hb3 := hb.trans (hbp.mono hw1)
                  have hw3 := hb3.size
                  have hblk3 : b < w3.heap.size := Nat.lt_of_lt_of_le hblk hbp.size
                  clear hq3
                  obtain ⟨l0, -⟩ := HL.out _ _ _ hO3 0 (by omega) 0
                  obtain ⟨l1, -⟩ := HL.out _ _ _ hO3 1 (by omega) 0
                  obtain ⟨l2, -⟩ := HL.out _ _ _ hO3 2 (by omega) 0
                  obtain ⟨l5, fz, -⟩ := HL.out _ _ _ hO3 5 (by omega) 0
                  rw [Nat.add_zero] at l0
                  go_wp2
                  go_quiet (fail)
                  have hO6 : OwT 6 42 (w3.drewN nq) w.heap.size (w3.drewN nq).heap.size (.slice (some ⟨g, 0, none⟩) out.length cap) out := hO3
                  have hb6 : Below w.heap.size w (w3.drewN nq) := below_drewN hb3 nq
                  have s1 : (w3.drewN nq).cell? ⟨b, off + k * 8 + 1, none⟩ = some (.int .i64 (gi (gl os k) 1)) := q1
                  have s6 : (w3.drewN nq).cell? ⟨b, off + k * 8 + 6, none⟩ = some (.int .i64 (gi (gl os k) 6)) := q6
                  have s5 : (w3.drewN nq).cell? ⟨g, (out.length - 1) * 6 + 5, none⟩ = some (.int .i64 (gi (lastL out) 5)) := l5
                  have sz : (w3.drewN nq).frozen? ⟨g, (out.length - 1) * 6 + 5, none⟩ = false := fz
                  have hblk6 : b < (w3.drewN nq).heap.size := hblk3
                  have hw6 : w.heap.size ≤ (w3.drewN nq).heap.size := hw3
                  clear q1 q6 l0 l1 l2 l5 fz hO3 hb3 hw3 hblk3 hbp
                  generalize w3.drewN nq = wq at *
                  go_wp2
                  go_roundw
                  case rel =>
                    obtain ⟨-, -, O5, C5⟩ := HL.out _ _ _ hO6 5 (by omega) (gi (lastL out) 5 + 1)
                    exact ⟨k + 1, (_, r, true), _, by omega, by go_num, rfl, rfl, rfl, (fun _ => HPP.out.symm), HNS.out (by rw [HF.out, h1, h2, h3, show (K != 1) = true by simp [bne, hK1]]; rfl), O5.mono (Nat.le_refl _) C5.size, hb6.trans (C5.below (Nat.le_refl _) hw6)⟩
                  case measure => simp [intOf]; omega
                · cases hpos : decide (0 < (P1 - P2) * gi (gl os k) 1)
                  · go_wp2_with fail
                    refine (int_same HPK.out (l09Kind_any _ _ _ _ _ _ _ _ b _ _ Q.out)).mono ?_
                    rintro e w' ⟨rfl, rfl⟩
                    go_wp2_with fail
                    refine (PL1.out _).mono ?_
                    rintro e w3 ⟨rfl, hbp⟩
                    have hq3 : ∀ (o : Nat) (v : Value), wr.cell? ⟨b, o, none⟩ = some v → w3.cell? ⟨b, o, none⟩ = some v := fun o v hv => by rw [hbp.cell hblk]; exact hv
                    replace q0 := hq3 _ _ q0
                    replace q1 := hq3 _ _ q1
                    replace q6 := hq3 _ _ q6
                    have hO3 := (hO.below hbp (Nat.le_refl _)).mono (Nat.le_refl _) hbp.size
                    have hb3 := hb.trans (hbp.mono hw1)
                    have hw3 := hb3.size
                    have hblk3 : b < w3.heap.size := Nat.lt_of_lt_of_le hblk hbp.size
                    clear hq3
                    obtain ⟨l0, -⟩ := HL.out _ _ _ hO3 0 (by omega) 0
                    obtain ⟨l1, -⟩ := HL.out _ _ _ hO3 1 (by omega) 0
                    obtain ⟨l2, -⟩ := HL.out _ _ _ hO3 2 (by omega) 0
                    obtain ⟨l5, fz, -⟩ := HL.out _ _ _ hO3 5 (by omega) 0
                    rw [Nat.add_zero] at l0
                    go_wp2
                    go_quiet (fail)
                    have hO6 : OwT 6 42 (w3.drewN nq) w.heap.size (w3.drewN nq).heap.size (.slice (some ⟨g, 0, none⟩) out.length cap) out := hO3
                    have hb6 : Below w.heap.size w (w3.drewN nq) := below_drewN hb3 nq
                    have s1 : (w3.drewN nq).cell? ⟨b, off + k * 8 + 1, none⟩ = some (.int .i64 (gi (gl os k) 1)) := q1
                    have s6 : (w3.drewN nq).cell? ⟨b, off + k * 8 + 6, none⟩ = some (.int .i64 (gi (gl os k) 6)) := q6
                    have s5 : (w3.drewN nq).cell? ⟨g, (out.length - 1) * 6 + 5, none⟩ = some (.int .i64 (gi (lastL out) 5)) := l5
                    have sz : (w3.drewN nq).frozen? ⟨g, (out.length - 1) * 6 + 5, none⟩ = false := fz
                    have hblk6 : b < (w3.drewN nq).heap.size := hblk3
                    have hw6 : w.heap.size ≤ (w3.drewN nq).heap.size := hw3
                    clear q1 q6 l0 l1 l2 l5 fz hO3 hb3 hw3 hblk3 hbp
                    generalize w3.drewN nq = wq at *
                    have hax := al1 wq (.cells #[.int .i64 K, .int .i64 (gi (gl os k) 1), .int .i64 (gi (gl os k) 6), .int .i64 r, .int .i64 k, .int .i64 1] 42)
                    have ho4 := (hO6.below hax (Nat.le_refl _)).mono (Nat.le_refl _) hax.size
                    have hb4 := hb6.trans (hax.mono hw6)
                    go_wp2_with (at_builtin; refine wpList_append_pass rfl (.tmp 116) (.tmp 118) rfl _ _ _ _ K (gi (gl os k) 1) (gi (gl os k) 6) r (k : Int) 1 rfl _ rfl (by simp) ho4 hb4.size (by omega) ?_; intro v1 w5 hO5 hg5)
                    have hb5 := hb4.trans (ho4.1.grown hg5 (Nat.le_refl _) hb4.size)
                    go_roundw
                    case rel => exact ⟨k + 1, (out ++ [[K, (gi (gl os k) 1), (gi (gl os k) 6), r, (k : Int), 1]], r, true), _, by omega, by go_num, rfl, rfl, rfl, (fun _ => HPP.out.symm), (by have := HNA.out (by rw [HF.out, h1, h2, h3, hpos, show (K != 1) = false by simp [bne, hK1]]; rfl); exact this), hO5, hb5⟩
                    case measure => simp [intOf]; omega
                  · go_wp2_with fail
                    refine (int_same HPK.out (l09Kind_any _ _ _ _ _ _ _ _ b _ _ Q.out)).mono ?_
                    rintro e w' ⟨rfl, rfl⟩
                    go_wp2_with fail
                    refine (PL1.out _).mono ?_
                    rintro e w3 ⟨rfl, hbp⟩
                    have hq3 : ∀ (o : Nat) (v : Value), wr.cell? ⟨b, o, none⟩ = some v → w3.cell? ⟨b, o, none⟩ = some v := fun o v hv => by rw [hbp.cell hblk]; exact hv
                    replace q0 := hq3 _ _ q0
                    replace q1 := hq3 _ _ q1
                    replace q6 := hq3 _ _ q6
                    have hO3 := (hO.below hbp (Nat.le_refl _)).mono (Nat.le_refl _) hbp.size
                    have hb3 := hb.trans (hbp.mono hw1)
                    have hw3 := hb3.size
                    have hblk3 : b < w3.heap.size := Nat.lt_of_lt_of_le hblk hbp.size
                    clear hq3
                    obtain ⟨l0, -⟩ := HL.out _ _ _ hO3 0 (by omega) 0
                    obtain ⟨l1, -⟩ := HL.out _ _ _ hO3 1 (by omega) 0
                    obtain ⟨l2, -⟩ := HL.out _ _ _ hO3 2 (by omega) 0
                    obtain ⟨l5, fz, -⟩ := HL.out _ _ _ hO3 5 (by omega) 0
                    rw [Nat.add_zero] at l0
                    go_wp2
                    go_quiet (fail)
                    have hO6 : OwT 6 42 (w3.drewN nq) w.heap.size (w3.drewN nq).heap.size (.slice (some ⟨g, 0, none⟩) out.length cap) out := hO3
                    have hb6 : Below w.heap.size w (w3.drewN nq) := below_drewN hb3 nq
                    have s1 : (w3.drewN nq).cell? ⟨b, off + k * 8 + 1, none⟩ = some (.int .i64 (gi (gl os k) 1)) := q1
                    have s6 : (w3.drewN nq).cell? ⟨b, off + k * 8 + 6, none⟩ = some (.int .i64 (gi (gl os k) 6)) := q6
                    have s5 : (w3.drewN nq).cell? ⟨g, (out.length - 1) * 6 + 5, none⟩ = some (.int .i64 (gi (lastL out) 5)) := l5
                    have sz : (w3.drewN nq).frozen? ⟨g, (out.length - 1) * 6 + 5, none⟩ = false := fz
                    have hblk6 : b < (w3.drewN nq).heap.size := hblk3
                    have hw6 : w.heap.size ≤ (w3.drewN nq).heap.size := hw3
                    clear q1 q6 l0 l1 l2 l5 fz hO3 hb3 hw3 hblk3 hbp
                    generalize w3.drewN nq = wq at *
                    go_wp2
                    go_roundw
                    case rel =>
                      obtain ⟨-, -, O5, C5⟩ := HL.out _ _ _ hO6 5 (by omega) (gi (lastL out) 5 + 1)
                      exact ⟨k + 1, (_, r, true), _, by omega, by go_num, rfl, rfl, rfl, (fun _ => HPP.out.symm), HNS.out (by rw [HF.out, h1, h2, h3, hpos, show (K != 1) = false by simp [bne, hK1]]; rfl), O5.mono (Nat.le_refl _) C5.size, hb6.trans (C5.below (Nat.le_refl _) hw6)⟩
                    case measure => simp [intOf]; omega
      · have hKz : K = 0 := by simpa using h0
        cases h7 : (gi (gl os k) 0 == 7)
        · have HS2 := Lib.hid (show psUp os (k + 1) = (out, r, false) by rw [HN.out, psNext, HPK.out, if_pos hKz, HRK.out, if_neg (by simpa using h7)])
          go_wp2_with fail
          refine (int_same HPK.out (l09Kind_any _ _ _ _ _ _ _ _ b _ _ Q.out)).mono ?_
          rintro e w' ⟨rfl, rfl⟩
          go_wp2_with fail
          go_roundw
          case rel => exact ⟨k + 1, (out, r, false), _, by omega, by go_num, rfl, rfl, rfl, (fun hh => by cases hh), HS2.out, hO, hb⟩
          case measure => simp [intOf]; omega
        · have HS2 := Lib.hid (show psUp os (k + 1) = (out, gi (gl os k) 7, false) by rw [HN.out, psNext, HPK.out, if_pos hKz, HRK.out, if_pos (by simpa using h7)])
          go_wp2_with fail
          refine (int_same HPK.out (l09Kind_any _ _ _ _ _ _ _ _ b _ _ Q.out)).mono ?_
          rintro e w' ⟨rfl, rfl⟩
          go_wp2_with fail
          go_roundw
          case rel => exact ⟨k + 1, (out, gi (gl os k) 7, false), _, by omega, by go_num, rfl, rfl, rfl, (fun hh => by cases hh), HS2.out, hO, hb⟩
          case measure => simp [intOf]; omega
    · obtain rfl : k = os.length := by omega
      go_wp2
      go_ret
      exact ⟨_, rfl, by rw [HS.out]; exact hO, hb⟩
end Go.Proofs.Ytpiodiliifnckaa
