/-
  Contracts: operations valid for a width (the program's validFor, the reference's l07Ops); a slice of operations as an argument of a law.
-/
import Derived.Test.YtpiodiliifnckaaDoorPo2
import Derived.Test.YtpiodiliifnckaaDoorOpsL
import Derived.Test.YtpiodiliifnckaaDoorOpen
import Derived.Deep.Slices
namespace Go.Proofs.YtpiodiliifnckaaDoor
set_option maxRecDepth 10000
open Go.RowKit Go.ChangeShapes Go.WideShapes Go.ChangeAt Go.Deep

theorem dec_lt (a b : Int) : decide (a < b) = !decide (b ≤ a) := by
  by_cases h : a < b
  · have h2 : ¬ b ≤ a := by omega
    simp only [h, h2, decide_true, decide_false, Bool.not_false]
  · have h2 : b ≤ a := by omega
    simp only [h, h2, decide_true, decide_false, Bool.not_true]
set_option maxHeartbeats 1600000 in
theorem validFor1_any (o : List Int) (n : Int) (p : Addr) (w : World) (hc : w.cell? p = some (.int .i64 n)) :
    Calls Tryd.prog 62 #[.agg #[.int .i64 (gi o 0), .int .i64 (gi o 1), .int .i64 (gi o 2), .int .i64 (gi o 3), .int .i64 (gi o 4), .int .i64 (gi o 5), .int .i64 (gi o 6), .int .i64 (gi o 7)], .pointer (some p)] w fun e w' => e = .returned (.bool (!(opB o && fitB n o))) ∧ Below w.heap.size w w' := by
  have hpl := block_lt_of_cell hc
  have hB : opB o = vOp (gi o 0) (gi o 1) (gi o 2) (gi o 3) (gi o 4) (gi o 5) (gi o 6) (gi o 7) := rfl
  have hF : fitB n o = (decide (gi o 3 < n) && decide (gi o 5 < n)) := rfl
  generalize hX : opB o = X at *
  generalize gi o 0 = o0 at *
  generalize gi o 1 = o1 at *
  generalize gi o 2 = o2 at *
  generalize gi o 3 = o3 at *
  generalize gi o 4 = o4 at *
  generalize gi o 5 = o5 at *
  generalize gi o 6 = o6 at *
  generalize gi o 7 = o7 at *
  have HB := Lib.hid hB
  have HF := Lib.hid hF
  clear hB hF
  have hA := al1 w (.cells #[.int .i64 o0, .int .i64 o1, .int .i64 o2, .int .i64 o3, .int .i64 o4, .int .i64 o5, .int .i64 o6, .int .i64 o7] 35)
  cases X
  · go_enter Tryd.func62, Tryd.ntmps62
    go_wp2_with fail
    refine (is_below HB.out.symm (impl_ValidOp_any o0 o1 o2 o3 o4 o5 o6 o7 _)).mono ?_
    rintro e w1 ⟨rfl, hb⟩
    obtain ⟨hcc, hf⟩ := bcell hb
    go_wp2_with fail
    go_ret
    exact ⟨ret_bool (by simp), hA.trans (hb.mono hA.size)⟩
  · cases h3 : decide (n ≤ o3) <;> cases h5 : decide (n ≤ o5)
    all_goals
      have HG := Lib.hid (show fitB n o = _ by rw [HF.out, dec_lt o3 n, dec_lt o5 n])
      simp only [h3, h5, Bool.not_true, Bool.not_false, Bool.and_true, Bool.and_false, Bool.and_self] at HG
      go_enter Tryd.func62, Tryd.ntmps62
      go_wp2_with fail
      refine (is_below HB.out.symm (impl_ValidOp_any o0 o1 o2 o3 o4 o5 o6 o7 _)).mono ?_
      rintro e w1 ⟨rfl, hb⟩
      obtain ⟨hcc, hf⟩ := bcell hb
      have hc1 : w1.cell? p = some (.int .i64 n) := by rw [hb.cell (by simp; omega), World.cell?_alloc_lt _ _ _ hpl]; exact hc
      go_wp2_with fail
      go_ret
      exact ⟨ret_bool (by rw [HG.out]; simp), hA.trans (hb.mono hA.size)⟩
set_option maxHeartbeats 1600000 in
theorem indexOps_any (v : Value) (os : List (List Int)) (B : Nat) (n : Int) (p : Addr) (w : World) (h : SlR 8 w B v os) (hB : B ≤ w.heap.size) (hc : w.cell? p = some (.int .i64 n)) :
    Calls Tryd.prog 76 #[v, .func (.func 62) #[] #[.pointer (some p)]] w fun e w' =>
      (∃ r : Int, e = .returned (.int .i64 r) ∧ -1 ≤ r ∧ (os.all fun o => opB o && fitB n o) = decide (r < 0)) ∧ Below w.heap.size w w' := by
  obtain ⟨A, c, rfl, hl, hm, _, hcells⟩ := h
  unfold maxLen at hm
  have HC := Lib.hid hcells
  have hpl := block_lt_of_cell hc
  clear hcells
  go_enter Tryd.func76, Tryd.ntmps76
  go_wp2
  go_loopw [8] (fun i wr => ∃ k : Nat, k ≤ os.length ∧ i = .int .i64 k ∧ (∀ j, j < k → (opB (gl os j) && fitB n (gl os j)) = true) ∧ Below w.heap.size w wr) (fun i _ => os.length - (intOf i).toNat)
  case atStart => exact ⟨0, Nat.zero_le _, rfl, fun j hj => absurd hj (Nat.not_lt_zero _), Below.refl _ _⟩
  case round =>
    obtain ⟨k, hk, rfl, hgood, hb⟩ := hrel
    have HG := Lib.hid hgood
    clear hgood
    by_cases hlt : k < os.length
    · obtain ⟨b, off, rfl, hbB, hcell⟩ := HC.out (by omega)
      obtain ⟨q0, q1, q2, q3, q4, q5, q6, q7⟩ := opAt_of (fun j hj => (show wr.cell? ⟨b, off + k * 8 + j, none⟩ = some (.int .i64 (gi (gl os k) j)) by rw [hb.cell (by simp only; omega)]; exact hcell k hlt j hj))
      have hc1 : wr.cell? p = some (.int .i64 n) := by rw [hb.cell hpl]; exact hc
      clear hcell
      cases hok : (opB (gl os k) && fitB n (gl os k))
      · have HF := Lib.hid (all_no (p := fun o => opB o && fitB n o) hlt hok)
        go_wp2_with (go_at_call 62; refine (validFor1_any _ n p _ hc1).mono ?_; rintro e w2 ⟨rfl, hb2⟩; rw [hok])
        go_ret
        exact ⟨⟨k, rfl, by omega, by rw [HF.out]; simp⟩, hb.trans (hb2.mono hb.size)⟩
      · go_wp2_with (go_at_call 62; refine (validFor1_any _ n p _ hc1).mono ?_; rintro e w2 ⟨rfl, hb2⟩; rw [hok])
        go_roundw
        case rel =>
          refine ⟨k + 1, by omega, by go_num, fun j hj => ?_, hb.trans (hb2.mono hb.size)⟩
          by_cases hjk : j < k
          · exact HG.out j hjk
          · obtain rfl : j = k := by omega
            exact hok
        case measure => simp [intOf]; omega
    · go_wp2
      go_ret
      exact ⟨⟨-1, rfl, by omega, by rw [all_iff.2 fun j hj => HG.out j (by omega)]; simp⟩, hb⟩
set_option maxHeartbeats 400000 in
theorem containsOps_any (v : Value) (os : List (List Int)) (B : Nat) (n : Int) (p : Addr) (w : World) (h : SlR 8 w B v os) (hB : B ≤ w.heap.size) (hc : w.cell? p = some (.int .i64 n)) :
    Calls Tryd.prog 61 #[v, .func (.func 62) #[] #[.pointer (some p)]] w fun e w' => e = .returned (.bool (!(os.all fun o => opB o && fitB n o))) ∧ Below w.heap.size w w' := by
  go_enter Tryd.func61, Tryd.ntmps61
  go_wp2_with (go_at_call 76; refine (indexOps_any _ os B n p _ h hB hc).mono ?_; rintro e w' ⟨⟨r, rfl, hr, hlet⟩, hb⟩; have HL := Lib.hid hlet; clear hlet)
  go_ret
  refine ⟨ret_bool ?_, hb⟩
  rw [HL.out]
  by_cases hr0 : r < 0 <;> simp [hr0]
  omega
set_option maxHeartbeats 800000 in
theorem validFor_any (n : Int) (v : Value) (os : List (List Int)) (B : Nat) (w : World) (h : SlR 8 w B v os) (hB : B ≤ w.heap.size) :
    Calls Tryd.prog 34 #[.int .i64 n, v] w fun e w' => e = .returned (.bool (okOps n os)) ∧ Below w.heap.size w w' := by
  obtain ⟨A, c, rfl, hl, hm, -⟩ := id h
  unfold maxLen at hm
  have hA := al1 w (.cells #[.int .i64 n] 2)
  have h1 := h.below hA hB
  cases hin : inR n 1 24
  · have HE := Lib.hid (show okOps n os = false by simp [okOps, hin])
    go_enter Tryd.func34, Tryd.ntmps34
    go_wp2_with (go_at_call 48; refine (is_same hin (within_any _ _ _ _)).mono ?_; rintro e w' ⟨rfl, rfl⟩)
    go_ret
    exact ⟨ret_bool HE.out.symm, hA⟩
  · by_cases hlen : os.length ≤ 1500
    · have hlI : (os.length : Int) ≤ 1500 := by omega
      have HE := Lib.hid (show okOps n os = os.all fun o => opB o && fitB n o by simp [okOps, hin, hlen])
      go_enter Tryd.func34, Tryd.ntmps34
      go_wp2_with (first | (go_at_call 48; refine (is_same hin (within_any _ _ _ _)).mono ?_; rintro e w' ⟨rfl, rfl⟩) | (go_at_call 61; refine (containsOps_any _ os B n _ _ h1 (Nat.le_trans hB hA.size) (by simp)).mono ?_; rintro e w1 ⟨rfl, hb⟩))
      go_ret
      exact ⟨ret_bool (by simp [HE.out]), hA.trans (hb.mono hA.size)⟩
    · have hlI : decide ((os.length : Int) ≤ 1500) = false := by simp; omega
      have HE := Lib.hid (show okOps n os = false by simp [okOps, hlen])
      go_enter Tryd.func34, Tryd.ntmps34
      go_wp2_with (first | (go_at_call 48; refine (is_same hin (within_any _ _ _ _)).mono ?_; rintro e w' ⟨rfl, rfl⟩))
      go_ret
      exact ⟨ret_bool HE.out.symm, hA⟩
set_option maxHeartbeats 400000 in
theorem l07Fits_any (k d fb fa tb ta c r n : Int) (b o : Nat) (w : World) (h : OpAt w b o k d fb fa tb ta c r) :
    Calls Tryd.prog 60 #[.pointer (some ⟨b, o, none⟩), .int .i64 n] w fun e w' => e = .returned (.bool (decide (fa < n) && decide (ta < n))) ∧ w = w' := by
  obtain ⟨q0, q1, q2, q3, q4, q5, q6, q7⟩ := h
  by_cases h3 : fa < n <;> by_cases h5 : ta < n
  all_goals
    go_enter Tryd.func60, Tryd.ntmps60
    go_wp2
    go_ret
    exact ⟨ret_bool (by simp [h3, h5]), rfl⟩
set_option maxHeartbeats 1600000 in
theorem l07Ops_any (n : Int) (v : Value) (os : List (List Int)) (B : Nat) (w : World) (h : SlR 8 w B v os) (hB : B ≤ w.heap.size) :
    Calls Tryd.prog 32 #[.int .i64 n, v] w fun e w' => e = .returned (.bool (okOps n os)) ∧ Below w.heap.size w w' := by
  obtain ⟨A, c, rfl, hl, hm, _, hcells⟩ := h
  unfold maxLen at hm
  have HC := Lib.hid hcells
  clear hcells
  go_enter Tryd.func32, Tryd.ntmps32
  go_wp2
  go_loopw [5] (fun i wr => ∃ k : Nat, k ≤ os.length ∧ i = .int .i64 k ∧ (∀ j, j < k → (opB (gl os j) && fitB n (gl os j)) = true) ∧ Below w.heap.size w wr) (fun i _ => os.length - (intOf i).toNat)
  case atStart => exact ⟨0, Nat.zero_le _, rfl, fun j hj => absurd hj (Nat.not_lt_zero _), Below.refl _ _⟩
  case round =>
    obtain ⟨k, hk, rfl, hgood, hb⟩ := hrel
    have HG := Lib.hid hgood
    clear hgood
    by_cases hlt : k < os.length
    · obtain ⟨b, off, rfl, hbB, hcell⟩ := HC.out (by omega)
      have q := opAt_of (fun j hj => (show wr.cell? ⟨b, off + k * 8 + j, none⟩ = some (.int .i64 (gi (gl os k) j)) by rw [hb.cell (by simp only; omega)]; exact hcell k hlt j hj))
      have Q := Lib.hid q
      clear hcell q
      have hO : opB (gl os k) = vOp (gi (gl os k) 0) (gi (gl os k) 1) (gi (gl os k) 2) (gi (gl os k) 3) (gi (gl os k) 4) (gi (gl os k) 5) (gi (gl os k) 6) (gi (gl os k) 7) := rfl
      have hF : fitB n (gl os k) = (decide (gi (gl os k) 3 < n) && decide (gi (gl os k) 5 < n)) := rfl
      have HO := Lib.hid hO
      have HF := Lib.hid hF
      cases h1 : opB (gl os k)
      · have HE := Lib.hid (show okOps n os = false by simp [okOps, all_no (p := fun o => opB o && fitB n o) hlt (show (opB (gl os k) && fitB n (gl os k)) = false by rw [h1]; rfl)])
        clear hO hF
        go_wp2_with (go_at_call 27; refine (is_below (HO.out.symm.trans h1) (l07Op_any _ _ _ _ _ _ _ _ _ _ _ Q.out)).mono ?_; rintro e w2 ⟨rfl, hb2⟩)
        go_ret
        exact ⟨ret_bool HE.out.symm, hb.trans (hb2.mono hb.size)⟩
      · cases h2 : fitB n (gl os k)
        · have HE := Lib.hid (show okOps n os = false by simp [okOps, all_no (p := fun o => opB o && fitB n o) hlt (show (opB (gl os k) && fitB n (gl os k)) = false by rw [h2]; simp)])
          clear hO hF
          go_wp2_with fail
          refine (is_below (HO.out.symm.trans h1) (l07Op_any _ _ _ _ _ _ _ _ _ _ _ Q.out)).mono ?_
          rintro e w2 ⟨rfl, hb2⟩
          have Q2 := opAt_of (fun j hj => (show w2.cell? ⟨b, off + k * 8 + j, none⟩ = some (.int .i64 (gi (gl os k) j)) from opAt_keep Q.out hb2 j hj))
          go_wp2_with fail
          refine (is_same (HF.out.symm.trans h2) (l07Fits_any _ _ _ _ _ _ _ _ n _ _ _ Q2)).mono ?_
          rintro e w3 ⟨rfl, rfl⟩
          go_wp2_with fail
          go_ret
          exact ⟨ret_bool HE.out.symm, hb.trans (hb2.mono hb.size)⟩
        · clear hO hF
          go_wp2_with fail
          refine (is_below (HO.out.symm.trans h1) (l07Op_any _ _ _ _ _ _ _ _ _ _ _ Q.out)).mono ?_
          rintro e w2 ⟨rfl, hb2⟩
          have Q2 := opAt_of (fun j hj => (show w2.cell? ⟨b, off + k * 8 + j, none⟩ = some (.int .i64 (gi (gl os k) j)) from opAt_keep Q.out hb2 j hj))
          go_wp2_with fail
          refine (is_same (HF.out.symm.trans h2) (l07Fits_any _ _ _ _ _ _ _ _ n _ _ _ Q2)).mono ?_
          rintro e w3 ⟨rfl, rfl⟩
          go_wp2_with fail
          go_roundw
          case rel =>
            refine ⟨k + 1, by omega, by go_num, fun j hj => ?_, hb.trans (hb2.mono hb.size)⟩
            by_cases hjk : j < k
            · exact HG.out j hjk
            · obtain rfl : j = k := by omega
              rw [h1, h2]; rfl
          case measure => simp [intOf]; omega
    · have HA := Lib.hid (show (os.all fun o => opB o && fitB n o) = true from all_iff.2 fun j hj => HG.out j (by omega))
      cases hin : inR n 1 24
      · have HE := Lib.hid (show okOps n os = false by simp [okOps, hin])
        go_wp2_with (go_at_call 44; refine (is_same hin (l00In_any _ _ _ _)).mono ?_; rintro e w' ⟨rfl, rfl⟩)
        go_ret
        exact ⟨ret_bool HE.out.symm, hb⟩
      · have HE := Lib.hid (show okOps n os = decide ((os.length : Int) ≤ 1500) by rw [okOps, hin, HA.out]; simp; omega)
        go_wp2_with (go_at_call 44; refine (is_same hin (l00In_any _ _ _ _)).mono ?_; rintro e w' ⟨rfl, rfl⟩)
        go_ret
        exact ⟨ret_bool HE.out.symm, hb⟩
section
variable {H : Type} {enc : TypeId × Value → H} {w : World} {spare : Nat → Bool} {held : Bool}
theorem slo_trod {fuel : Nat} {cs : List Value} {x : DataW H × List MemPlace} (h : DataW.trod enc Tryd.prog w 0 spare held fuel 38 cs = some x) :
    ∃ v os, cs = [v] ∧ SlR 8 w w.heap.size v os ∧ ∀ o ∈ os, ∀ n ∈ o, R64 n := by
  rcases open_slice Tryd.underlying38 h with ⟨hcs, _⟩ | ⟨a, len, cap, m, n, D, Pl, hcs, _, hl, hm, hmm, _, hx⟩
  · exact ⟨_, [], hcs, SlR.nil _ _ _, by simp⟩
  · have hlm : len ≤ m := by rw [hmm]; split <;> omega
    obtain ⟨X, hX⟩ := choose_lt (α := List Int) (n := len) (p := fun i o => (∀ j, j < 8 → w.cell? (a.add (i * 8 + j)) = some (.int .i64 (gi o j))) ∧ o.length = 8 ∧ ∀ n ∈ o, R64 n) (fun i hi => by
      obtain ⟨cs', h1, h2⟩ := hx i (by omega)
      obtain ⟨k, d, fb, fa, tb, ta, c, r, e, hr⟩ := op_trod h2
      have hc8 : Tryd.prog.cellsOf 31 = 8 := by kernel_rfl
      rw [hc8] at h1
      obtain ⟨-, hl8, hcc⟩ := World.cells?_some h1
      refine ⟨[k, d, fb, fa, tb, ta, c, r], fun j hj => ?_, rfl, fun n hn => ?_⟩
      · have h3 := hcc j hj
        rw [Addr.add_add] at h3
        rw [h3, e]
        match j, hj with
        | 0, _ => rfl
        | 1, _ => rfl
        | 2, _ => rfl
        | 3, _ => rfl
        | 4, _ => rfl
        | 5, _ => rfl
        | 6, _ => rfl
        | 7, _ => rfl
      · obtain ⟨r0, r1, r2, r3, r4, r5, r6, r7⟩ := hr
        simp only [List.mem_cons, List.not_mem_nil, or_false] at hn
        rcases hn with rfl | rfl | rfl | rfl | rfl | rfl | rfl | rfl <;> assumption)
    have hgl : ∀ k, k < len → gl ((List.range len).map X) k = X k := fun k hk => by rw [gl_eq (by simpa using hk)]; simp
    refine ⟨_, (List.range len).map X, hcs, ⟨some a, cap, by simp, by simpa using hl, hm, ⟨fun o ho => ?_, fun h => by cases h⟩, fun hp => ?_⟩, fun o ho => ?_⟩
    · obtain ⟨i, hi, rfl⟩ := List.mem_map.1 ho
      exact (hX i (by simpa using hi)).2.1
    · have hp' : 0 < len := by simpa using hp
      have h0 := (hX 0 hp').1 0 (by omega)
      rw [show a.add (0 * 8 + 0) = a from rfl] at h0
      obtain ⟨ha, hlt⟩ := addr_of_cell h0
      refine ⟨a.block, a.off, by rw [← ha], hlt, fun k hk j hj => ?_⟩
      have hk' : k < len := by simpa using hk
      have h1 := (hX k hk').1 j hj
      rw [ha, Addr.add_lit] at h1
      rw [hgl k hk', Nat.add_assoc]
      exact h1
    · obtain ⟨i, hi, rfl⟩ := List.mem_map.1 ho
      exact (hX i (by simpa using hi)).2.2
theorem open_SlO {r : Reach} {base : Nat} {v : Value} {d : DataW H} {p : List MemPlace} (hval : Value.okWide Tryd.prog w r base 38 v) (h : DataW.Trod enc Tryd.prog w 0 spare held 38 v d p) :
    ∃ os, SlR 8 w w.heap.size v os ∧ ∀ o ∈ os, ∀ n ∈ o, R64 n := by
  obtain ⟨a, len, cap, rfl⟩ := okWide_slice Tryd.underlying38 hval
  obtain ⟨fuel, hf⟩ := h
  obtain ⟨v, os, hcs, hs, hr⟩ := slo_trod hf
  simp [Value.cells] at hcs
  subst hcs
  exact ⟨os, hs, hr⟩
end
end Go.Proofs.YtpiodiliifnckaaDoor
