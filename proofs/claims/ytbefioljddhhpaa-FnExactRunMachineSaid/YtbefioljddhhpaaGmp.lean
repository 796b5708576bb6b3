/-
  Contracts: operations valid for a width (the program's validFor, the reference's l07Ops); a slice of operations as an argument of a law.
-/
import Derived.Test.YtbefioljddhhpaaPo2
import Derived.Test.YtbefioljddhhpaaOpsL
import Derived.Test.YtbefioljddhhpaaOpen
import Derived.Deep.Slices
import Derived.Test.YtbefioljddhhpaaSt
namespace Go.Proofs.Ytbefioljddhhpaa
set_option maxRecDepth 10000
open Go.RowKit Go.ChangeShapes Go.WideShapes Go.ChangeAt Go.Deep

theorem dec_lt (a b : Int) : decide (a < b) = !decide (b ≤ a) := by
  by_cases h : a < b
  · have h2 : ¬ b ≤ a := by omega
    simp only [h, h2, decide_true, decide_false, Bool.not_false]
  · have h2 : b ≤ a := by omega
    simp only [h, h2, decide_true, decide_false, Bool.not_true]
set_option maxHeartbeats 1600000 in
theorem validFor1_any (o : List Int) (n : Int) (p : Addr) (w : World) (hc : w.cell? p = some (.int .i64 n)) :
    Calls Try.prog 116 #[.agg #[.int .i64 (gi o 0), .int .i64 (gi o 1), .int .i64 (gi o 2), .int .i64 (gi o 3), .int .i64 (gi o 4), .int .i64 (gi o 5), .int .i64 (gi o 6), .int .i64 (gi o 7)], .pointer (some p)] w fun e w' => e = .returned (.bool (!(opB o && fitB n o))) ∧ Below w.heap.size w w' := by
  have hpl := block_lt_of_cell hc
  have hB : opB o = vOp (gi o 0) (gi o 1) (gi o 2) (gi o 3) (gi o 4) (gi o 5) (gi o 6) (gi o 7) := rfl
  have hF : fitB n o = (decide (gi o 3 < n) && decide (gi o 5 < n)) := rfl
  generalize hX : opB o = X at *
  generalize gi o 0 = o0 at *
  generalize gi o 1 = o1 at *
  generalize gi o 2 = o2 at *
  generalize gi o 3 = o3 at *
  generalize gi o 4 = o4 at *
  generalize gi o 5 = o5 at *
  generalize gi o 6 = o6 at *
  generalize gi o 7 = o7 at *
  have HB := Lib.hid hB
  have HF := Lib.hid hF
  clear hB hF
  have hA := al1 w (.cells #[.int .i64 o0, .int .i64 o1, .int .i64 o2, .int .i64 o3, .int .i64 o4, .int .i64 o5, .int .i64 o6, .int .i64 o7] 101)
  cases X
  · go_enter Try.func116, Try.ntmps116
    go_wp2_with fail
    refine (is_below HB.out.symm (impl_ValidOp_any o0 o1 o2 o3 o4 o5 o6 o7 _)).mono ?_
    rintro e w1 ⟨rfl, hb⟩
    obtain ⟨hcc, hf⟩ := bcell hb
    go_wp2_with fail
    go_ret
    exact ⟨ret_bool (by simp), hA.trans (hb.mono hA.size)⟩
  · cases h3 : decide (n ≤ o3) <;> cases h5 : decide (n ≤ o5)
    all_goals
      have HG := Lib.hid (show fitB n o = _ by rw [HF.out, dec_lt o3 n, dec_lt o5 n])
      simp only [h3, h5, Bool.not_true, Bool.not_false, Bool.and_true, Bool.and_false, Bool.and_self] at HG
      go_enter Try.func116, Try.ntmps116
      go_wp2_with fail
      refine (is_below HB.out.symm (impl_ValidOp_any o0 o1 o2 o3 o4 o5 o6 o7 _)).mono ?_
      rintro e w1 ⟨rfl, hb⟩
      obtain ⟨hcc, hf⟩ := bcell hb
      have hc1 : w1.cell? p = some (.int .i64 n) := by rw [hb.cell (by simp; omega), World.cell?_alloc_lt _ _ _ hpl]; exact hc
      go_wp2_with fail
      go_ret
      exact ⟨ret_bool (by rw [HG.out]; simp), hA.trans (hb.mono hA.size)⟩
set_option maxHeartbeats 1600000 in
theorem indexOps_any (v : Value) (os : List (List Int)) (B : Nat) (n : Int) (p : Addr) (w : World) (h : SlR 8 w B v os) (hB : B ≤ w.heap.size) (hc : w.cell? p = some (.int .i64 n)) :
    Calls Try.prog 130 #[v, .func (.func 116) #[] #[.pointer (some p)]] w fun e w' =>
      (∃ r : Int, e = .returned (.int .i64 r) ∧ -1 ≤ r ∧ (os.all fun o => opB o && fitB n o) = decide (r < 0)) ∧ Below w.heap.size w w' := by
  obtain ⟨A, c, rfl, hl, hm, _, hcells⟩ := h
  unfold maxLen at hm
  have HC := Lib.hid hcells
  have hpl := block_lt_of_cell hc
  clear hcells
  go_enter Try.func130, Try.ntmps130
  go_wp2
  go_loopw [8] (fun i wr => ∃ k : Nat, k ≤ os.length ∧ i = .int .i64 k ∧ (∀ j, j < k → (opB (gl os j) && fitB n (gl os j)) = true) ∧ Below w.heap.size w wr) (fun i _ => os.length - (intOf i).toNat)
  case atStart => exact ⟨0, Nat.zero_le _, rfl, fun j hj => absurd hj (Nat.not_lt_zero _), Below.refl _ _⟩
  case round =>
    obtain ⟨k, hk, rfl, hgood, hb⟩ := hrel
    have HG := Lib.hid hgood
    clear hgood
    by_cases hlt : k < os.length
    · obtain ⟨b, off, rfl, hbB, hcell⟩ := HC.out (by omega)
      obtain ⟨q0, q1, q2, q3, q4, q5, q6, q7⟩ := opAt_of (fun j hj => (show wr.cell? ⟨b, off + k * 8 + j, none⟩ = some (.int .i64 (gi (gl os k) j)) by rw [hb.cell (by simp only; omega)]; exact hcell k hlt j hj))
      have hc1 : wr.cell? p = some (.int .i64 n) := by rw [hb.cell hpl]; exact hc
      clear hcell
      cases hok : (opB (gl os k) && fitB n (gl os k))
      · have HF := Lib.hid (all_no (p := fun o => opB o && fitB n o) hlt hok)
        go_wp2_with (go_at_call 116; refine (validFor1_any _ n p _ hc1).mono ?_; rintro e w2 ⟨rfl, hb2⟩; rw [hok])
        go_ret
        exact ⟨⟨k, rfl, by omega, by rw [HF.out]; simp⟩, hb.trans (hb2.mono hb.size)⟩
      · go_wp2_with (go_at_call 116; refine (validFor1_any _ n p _ hc1).mono ?_; rintro e w2 ⟨rfl, hb2⟩; rw [hok])
        go_roundw
        case rel =>
          refine ⟨k + 1, by omega, by go_num, fun j hj => ?_, hb.trans (hb2.mono hb.size)⟩
          by_cases hjk : j < k
          · exact HG.out j hjk
          · obtain rfl : j = k := by omega
            exact hok
        case measure => simp [intOf]; omega
    · go_wp2
      go_ret
      exact ⟨⟨-1, rfl, by omega, by rw [all_iff.2 fun j hj => HG.out j (by omega)]; simp⟩, hb⟩
set_option maxHeartbeats 400000 in
theorem containsOps_any (v : Value) (os : List (List Int)) (B : Nat) (n : Int) (p : Addr) (w : World) (h : SlR 8 w B v os) (hB : B ≤ w.heap.size) (hc : w.cell? p = some (.int .i64 n)) :
    Calls Try.prog 115 #[v, .func (.func 116) #[] #[.pointer (some p)]] w fun e w' => e = .returned (.bool (!(os.all fun o => opB o && fitB n o))) ∧ Below w.heap.size w w' := by
  go_enter Try.func115, Try.ntmps115
  go_wp2_with (go_at_call 130; refine (indexOps_any _ os B n p _ h hB hc).mono ?_; rintro e w' ⟨⟨r, rfl, hr, hlet⟩, hb⟩; have HL := Lib.hid hlet; clear hlet)
  go_ret
  refine ⟨ret_bool ?_, hb⟩
  rw [HL.out]
  by_cases hr0 : r < 0 <;> simp [hr0]
  omega
set_option maxHeartbeats 800000 in
theorem validFor_any (n : Int) (v : Value) (os : List (List Int)) (B : Nat) (w : World) (h : SlR 8 w B v os) (hB : B ≤ w.heap.size) :
    Calls Try.prog 89 #[.int .i64 n, v] w fun e w' => e = .returned (.bool (okOps n os)) ∧ Below w.heap.size w w' := by
  obtain ⟨A, c, rfl, hl, hm, -⟩ := id h
  unfold maxLen at hm
  have hA := al1 w (.cells #[.int .i64 n] 2)
  have h1 := h.below hA hB
  cases hin : inR n 1 24
  · have HE := Lib.hid (show okOps n os = false by simp [okOps, hin])
    go_enter Try.func89, Try.ntmps89
    go_wp2_with (go_at_call 46; refine (is_same hin (within_any _ _ _ _)).mono ?_; rintro e w' ⟨rfl, rfl⟩)
    go_ret
    exact ⟨ret_bool HE.out.symm, hA⟩
  · by_cases hlen : os.length ≤ 1500
    · have hlI : (os.length : Int) ≤ 1500 := by omega
      have HE := Lib.hid (show okOps n os = os.all fun o => opB o && fitB n o by simp [okOps, hin, hlen])
      go_enter Try.func89, Try.ntmps89
      go_wp2_with (first | (go_at_call 46; refine (is_same hin (within_any _ _ _ _)).mono ?_; rintro e w' ⟨rfl, rfl⟩) | (go_at_call 115; refine (containsOps_any _ os B n _ _ h1 (Nat.le_trans hB hA.size) (by simp)).mono ?_; rintro e w1 ⟨rfl, hb⟩))
      go_ret
      exact ⟨ret_bool (by simp [HE.out]), hA.trans (hb.mono hA.size)⟩
    · have hlI : decide ((os.length : Int) ≤ 1500) = false := by simp; omega
      have HE := Lib.hid (show okOps n os = false by simp [okOps, hlen])
      go_enter Try.func89, Try.ntmps89
      go_wp2_with (first | (go_at_call 46; refine (is_same hin (within_any _ _ _ _)).mono ?_; rintro e w' ⟨rfl, rfl⟩))
      go_ret
      exact ⟨ret_bool HE.out.symm, hA⟩
set_option maxHeartbeats 400000 in
theorem l07Fits_any (k d fb fa tb ta c r n : Int) (b o : Nat) (w : World) (h : OpAt w b o k d fb fa tb ta c r) :
    Calls Try.prog 120 #[.pointer (some ⟨b, o, none⟩), .int .i64 n] w fun e w' => e = .returned (.bool (decide (fa < n) && decide (ta < n))) ∧ w = w' := by
  obtain ⟨q0, q1, q2, q3, q4, q5, q6, q7⟩ := h
  by_cases h3 : fa < n <;> by_cases h5 : ta < n
  all_goals
    go_enter Try.func120, Try.ntmps120
    go_wp2
    go_ret
    exact ⟨ret_bool (by simp [h3, h5]), rfl⟩
set_option maxHeartbeats 1600000 in
theorem l07Ops_any (n : Int) (v : Value) (os : List (List Int)) (B : Nat) (w : World) (h : SlR 8 w B v os) (hB : B ≤ w.heap.size) :
    Calls Try.prog 92 #[.int .i64 n, v] w fun e w' => e = .returned (.bool (okOps n os)) ∧ Below w.heap.size w w' := by
  obtain ⟨A, c, rfl, hl, hm, _, hcells⟩ := h
  unfold maxLen at hm
  have HC := Lib.hid hcells
  clear hcells
  go_enter Try.func92, Try.ntmps92
  go_wp2
  go_loopw [5] (fun i wr => ∃ k : Nat, k ≤ os.length ∧ i = .int .i64 k ∧ (∀ j, j < k → (opB (gl os j) && fitB n (gl os j)) = true) ∧ Below w.heap.size w wr) (fun i _ => os.length - (intOf i).toNat)
  case atStart => exact ⟨0, Nat.zero_le _, rfl, fun j hj => absurd hj (Nat.not_lt_zero _), Below.refl _ _⟩
  case round =>
    obtain ⟨k, hk, rfl, hgood, hb⟩ := hrel
    have HG := Lib.hid hgood
    clear hgood
    by_cases hlt : k < os.length
    · obtain ⟨b, off, rfl, hbB, hcell⟩ := HC.out (by omega)
      have q := opAt_of (fun j hj => (show wr.cell? ⟨b, off + k * 8 + j, none⟩ = some (.int .i64 (gi (gl os k) j)) by rw [hb.cell (by simp only; omega)]; exact hcell k hlt j hj))
      have Q := Lib.hid q
      clear hcell q
      have hO : opB (gl os k) = vOp (gi (gl os k) 0) (gi (gl os k) 1) (gi (gl os k) 2) (gi (gl os k) 3) (gi (gl os k) 4) (gi (gl os k) 5) (gi (gl os k) 6) (gi (gl os k) 7) := rfl
      have hF : fitB n (gl os k) = (decide (gi (gl os k) 3 < n) && decide (gi (gl os k) 5 < n)) := rfl
      have HO := Lib.hid hO
      have HF := Lib.hid hF
      cases h1 : opB (gl os k)
      · have HE := Lib.hid (show okOps n os = false by simp [okOps, all_no (p := fun o => opB o && fitB n o) hlt (show (opB (gl os k) && fitB n (gl os k)) = false by rw [h1]; rfl)])
        clear hO hF
        go_wp2_with (go_at_call 119; refine (is_below (HO.out.symm.trans h1) (l07Op_any _ _ _ _ _ _ _ _ _ _ _ Q.out)).mono ?_; rintro e w2 ⟨rfl, hb2⟩)
        go_ret
        exact ⟨ret_bool HE.out.symm, hb.trans (hb2.mono hb.size)⟩
      · cases h2 : fitB n (gl os k)
        · have HE := Lib.hid (show okOps n os = false by simp [okOps, all_no (p := fun o => opB o && fitB n o) hlt (show (opB (gl os k) && fitB n (gl os k)) = false by rw [h2]; simp)])
          clear hO hF
          go_wp2_with fail
          refine (is_below (HO.out.symm.trans h1) (l07Op_any _ _ _ _ _ _ _ _ _ _ _ Q.out)).mono ?_
          rintro e w2 ⟨rfl, hb2⟩
          have Q2 := opAt_of (fun j hj => (show w2.cell? ⟨b, off + k * 8 + j, none⟩ = some (.int .i64 (gi (gl os k) j)) from opAt_keep Q.out hb2 j hj))
          go_wp2_with fail
          refine (is_same (HF.out.symm.trans h2) (l07Fits_any _ _ _ _ _ _ _ _ n _ _ _ Q2)).mono ?_
          rintro e w3 ⟨rfl, rfl⟩
          go_wp2_with fail
          go_ret
          exact ⟨ret_bool HE.out.symm, hb.trans (hb2.mono hb.size)⟩
        · clear hO hF
          go_wp2_with fail
          refine (is_below (HO.out.symm.trans h1) (l07Op_any _ _ _ _ _ _ _ _ _ _ _ Q.out)).mono ?_
          rintro e w2 ⟨rfl, hb2⟩
          have Q2 := opAt_of (fun j hj => (show w2.cell? ⟨b, off + k * 8 + j, none⟩ = some (.int .i64 (gi (gl os k) j)) from opAt_keep Q.out hb2 j hj))
          go_wp2_with fail
          refine (is_same (HF.out.symm.trans h2) (l07Fits_any _ _ _ _ _ _ _ _ n _ _ _ Q2)).mono ?_
          rintro e w3 ⟨rfl, rfl⟩
          go_wp2_with fail
          go_roundw
          case rel =>
            refine ⟨k + 1, by omega, by go_num, fun j hj => ?_, hb.trans (hb2.mono hb.size)⟩
            by_cases hjk : j < k
            · exact HG.out j hjk
            · obtain rfl : j = k := by omega
              rw [h1, h2]; rfl
          case measure => simp [intOf]; omega
    · have HA := Lib.hid (show (os.all fun o => opB o && fitB n o) = true from all_iff.2 fun j hj => HG.out j (by omega))
      cases hin : inR n 1 24
      · have HE := Lib.hid (show okOps n os = false by simp [okOps, hin])
        go_wp2_with (go_at_call 44; refine (is_same hin (l00In_any _ _ _ _)).mono ?_; rintro e w' ⟨rfl, rfl⟩)
        go_ret
        exact ⟨ret_bool HE.out.symm, hb⟩
      · have HE := Lib.hid (show okOps n os = decide ((os.length : Int) ≤ 1500) by rw [okOps, hin, HA.out]; simp; omega)
        go_wp2_with (go_at_call 44; refine (is_same hin (l00In_any _ _ _ _)).mono ?_; rintro e w' ⟨rfl, rfl⟩)
        go_ret
        exact ⟨ret_bool HE.out.symm, hb⟩
section
variable {H : Type} {enc : TypeId × Value → H} {w : World} {spare : Nat → Bool} {held : Bool}
theorem slo_trod {fuel : Nat} {cs : List Value} {x : DataW H × List MemPlace} (h : DataW.trod enc Try.prog w 0 spare held fuel 56 cs = some x) :
    ∃ v os, cs = [v] ∧ SlR 8 w w.heap.size v os ∧ ∀ o ∈ os, ∀ n ∈ o, R64 n := by
  rcases open_slice Try.underlying56 h with ⟨hcs, _⟩ | ⟨a, len, cap, m, n, D, Pl, hcs, _, hl, hm, hmm, _, hx⟩
  · exact ⟨_, [], hcs, SlR.nil _ _ _, by simp⟩
  · have hlm : len ≤ m := by rw [hmm]; split <;> omega
    obtain ⟨X, hX⟩ := choose_lt (α := List Int) (n := len) (p := fun i o => (∀ j, j < 8 → w.cell? (a.add (i * 8 + j)) = some (.int .i64 (gi o j))) ∧ o.length = 8 ∧ ∀ n ∈ o, R64 n) (fun i hi => by
      obtain ⟨cs', h1, h2⟩ := hx i (by omega)
      obtain ⟨k, d, fb, fa, tb, ta, c, r, e, hr⟩ := op_trod h2
      have hc8 : Try.prog.cellsOf 104 = 8 := by kernel_rfl
      rw [hc8] at h1
      obtain ⟨-, hl8, hcc⟩ := World.cells?_some h1
      refine ⟨[k, d, fb, fa, tb, ta, c, r], fun j hj => ?_, rfl, fun n hn => ?_⟩
      · have h3 := hcc j hj
        rw [Addr.add_add] at h3
        rw [h3, e]
        match j, hj with
        | 0, _ => rfl
        | 1, _ => rfl
        | 2, _ => rfl
        | 3, _ => rfl
        | 4, _ => rfl
        | 5, _ => rfl
        | 6, _ => rfl
        | 7, _ => rfl
      · obtain ⟨r0, r1, r2, r3, r4, r5, r6, r7⟩ := hr
        simp only [List.mem_cons, List.not_mem_nil, or_false] at hn
        rcases hn with rfl | rfl | rfl | rfl | rfl | rfl | rfl | rfl <;> assumption)
    have hgl : ∀ k, k < len → gl ((List.range len).map X) k = X k := fun k hk => by rw [gl_eq (by simpa using hk)]; simp
    refine ⟨_, (List.range len).map X, hcs, ⟨some a, cap, by simp, by simpa using hl, hm, ⟨fun o ho => ?_, fun h => by cases h⟩, fun hp => ?_⟩, fun o ho => ?_⟩
    · obtain ⟨i, hi, rfl⟩ := List.mem_map.1 ho
      exact (hX i (by simpa using hi)).2.1
    · have hp' : 0 < len := by simpa using hp
      have h0 := (hX 0 hp').1 0 (by omega)
      rw [show a.add (0 * 8 + 0) = a from rfl] at h0
      obtain ⟨ha, hlt⟩ := addr_of_cell h0
      refine ⟨a.block, a.off, by rw [← ha], hlt, fun k hk j hj => ?_⟩
      have hk' : k < len := by simpa using hk
      have h1 := (hX k hk').1 j hj
      rw [ha, Addr.add_lit] at h1
      rw [hgl k hk', Nat.add_assoc]
      exact h1
    · obtain ⟨i, hi, rfl⟩ := List.mem_map.1 ho
      exact (hX i (by simpa using hi)).2.2
theorem open_SlO {r : Reach} {base : Nat} {v : Value} {d : DataW H} {p : List MemPlace} (hval : Value.okWide Try.prog w r base 56 v) (h : DataW.Trod enc Try.prog w 0 spare held 56 v d p) :
    ∃ os, SlR 8 w w.heap.size v os ∧ ∀ o ∈ os, ∀ n ∈ o, R64 n := by
  obtain ⟨a, len, cap, rfl⟩ := okWide_slice Try.underlying56 hval
  obtain ⟨fuel, hf⟩ := h
  obtain ⟨v, os, hcs, hs, hr⟩ := slo_trod hf
  simp [Value.cells] at hcs
  subst hcs
  exact ⟨os, hs, hr⟩
end
end Go.Proofs.Ytbefioljddhhpaa
/-
  Rows of structures among the things that a call has made (rt_), for the walks of the laws; the laws' helpers on operations in the form that these want.
-/
namespace Go.Proofs.Ytbefioljddhhpaa
set_option maxRecDepth 10000
open Go.RowKit

def rt_ (s : Nat) (e : TypeId) (v : Value) (os : List (List Int)) : Itm :=
  ⟨fun w S => (w.ownsRow 0 e s v os.length (vals os.flatten) ∧ ∀ g, v.ownBlock = some g → S g) ∧ ∀ o ∈ os, o.length = s, by
    intro w w' S ⟨⟨⟨h1, h2⟩, h3⟩, h4⟩ hk
    refine ⟨⟨⟨h1, ?_⟩, h3⟩, h4⟩
    rcases h2 with h2 | ⟨g, cap, cur, rfl, hlo, hh, r⟩
    · exact .inl h2
    · exact .inr ⟨g, cap, cur, rfl, hlo, by rw [hk g (h3 g rfl)]; exact hh, r⟩⟩
theorem rt_of_owt {s : Nat} {e : TypeId} {w : World} {lo hi : Nat} {v : Value} {os : List (List Int)} (h : OwT s e w lo hi v os) : (rt_ s e v os).p w (fun k => lo ≤ k ∧ k < hi) := by
  obtain ⟨⟨⟨h1, h2⟩, h3⟩, h4⟩ := h
  refine ⟨⟨⟨h1, ?_⟩, fun g hg => ⟨?_, h3 g hg⟩⟩, h4⟩
  · rcases h2 with h2 | ⟨g, cap, cur, rfl, hlo, r⟩
    · exact .inl h2
    · exact .inr ⟨g, cap, cur, rfl, Nat.zero_le _, r⟩
  · rcases h2 with ⟨rfl, h0⟩ | ⟨g', cap, cur, rfl, hlo, r⟩
    · simp [Value.ownBlock] at hg
    · simp [Value.ownBlock] at hg; omega
theorem owt_of_rt {s : Nat} {e : TypeId} {w : World} {S : Nat → Prop} {v : Value} {os : List (List Int)} (h : (rt_ s e v os).p w S) : ∃ lo hi, OwT s e w lo hi v os ∧ (hi = 0 ∨ lo < hi) ∧ (∀ k, lo ≤ k → k < hi → S k) := by
  obtain ⟨⟨⟨h1, h2⟩, h3⟩, h4⟩ := h
  rcases h2 with ⟨rfl, h0⟩ | ⟨g, cap, cur, rfl, hlo, r⟩
  · refine ⟨0, 0, ⟨⟨⟨h1, .inl ⟨rfl, h0⟩⟩, by simp [Value.ownBlock]⟩, h4⟩, .inl rfl, fun k _ hk => absurd hk (Nat.not_lt_zero _)⟩
  · refine ⟨g, g + 1, ⟨⟨⟨h1, .inr ⟨g, cap, cur, rfl, Nat.le_refl _, r⟩⟩, fun g' hg' => by simp [Value.ownBlock] at hg'; omega⟩, h4⟩, by omega, fun k hk hk2 => ?_⟩
    obtain rfl : k = g := by omega
    exact h3 k rfl
theorem hs_owt {s : Nat} {e : TypeId} {w w' : World} {v : Value} {os : List (List Int)} (h : OwT s e w' w.heap.size w'.heap.size v os) (hb : Below w.heap.size w w') : Hs w' w.heap.size [rt_ s e v os] :=
  Hs.one hb.size (rt_of_owt h) fun _ hk => hk
theorem Hs.rdT {s : Nat} {e : TypeId} {w : World} {lo : Nat} (L1 : List Itm) {v : Value} {os : List (List Int)} (L2 : List Itm) (h : Hs w lo (L1 ++ rt_ s e v os :: L2)) : SlR s w w.heap.size v os := by
  obtain ⟨S, hp, c, _⟩ := h.at_ L1 (rt_ s e v os) L2
  obtain ⟨a, b, ho, hab, hS⟩ := owt_of_rt hp
  rcases hab with h1 | h1
  · exact ho.sl (by omega)
  · exact ho.sl (by have := c (b - 1) (hS _ (by omega) (by omega)); omega)
theorem Hs.owtAt {s : Nat} {e : TypeId} {w : World} {lo : Nat} (L1 : List Itm) (v : Value) (os : List (List Int)) (L2 : List Itm) (h : Hs w lo (L1 ++ rt_ s e v os :: L2)) :
    ∃ a b, OwT s e w a b v os ∧ b ≤ w.heap.size ∧ ∀ (os' : List (List Int)) (w' : World), OwT s e w' a b v os' → Chg a b w w' → Hs w' lo (L1 ++ rt_ s e v os' :: L2) ∧ Below lo w w' := by
  obtain ⟨S, hp, c, hput⟩ := h.at_ L1 (rt_ s e v os) L2
  obtain ⟨a, b, ho, hab, hS⟩ := owt_of_rt hp
  refine ⟨a, b, ho, (by rcases hab with h1 | h1; (omega); (have := c (b - 1) (hS _ (by omega) (by omega)); omega)), fun os' w' ho' hc => ?_⟩
  have hcs : ChgS S w w' := (ChgS.of_chg hc).mono fun k hk => hS k hk.1 hk.2
  refine ⟨hput (rt_ s e v os') w' ?_ hcs, hcs.below (fun k hk => (c k hk).1) h.1⟩
  have h1 := rt_of_owt ho'
  exact ⟨⟨h1.1.1, fun g hg => hS g (h1.1.2 g hg).1 (h1.1.2 g hg).2⟩, h1.2⟩
theorem szOps_no {v : Value} {os : List (List Int)} {B : Nat} {left : Int} {w : World} (h : SlR 8 w B v os) (h1 : left ≤ 1048576) (h0 : 0 ≤ left) (hc : left < (os.length : Int)) :
    Calls Try.prog 36 #[v, .int .i64 left] w fun e w' => e = .returned (.int .i64 (-1)) ∧ Below w.heap.size w w' :=
  (szOps_any h h1 h0).mono fun _ _ ⟨he, hw⟩ => ⟨by rw [he, if_pos hc], by rw [← hw]; exact Below.refl _ _⟩
theorem szOps_yes {v : Value} {os : List (List Int)} {B : Nat} {left : Int} {w : World} (h : SlR 8 w B v os) (h1 : left ≤ 1048576) (h0 : 0 ≤ left) (hc : ¬ left < (os.length : Int)) :
    Calls Try.prog 36 #[v, .int .i64 left] w fun e w' => e = .returned (.int .i64 (left - (os.length : Int))) ∧ Below w.heap.size w w' :=
  (szOps_any h h1 h0).mono fun _ _ ⟨he, hw⟩ => ⟨by rw [he, if_neg hc], by rw [← hw]; exact Below.refl _ _⟩
end Go.Proofs.Ytbefioljddhhpaa
