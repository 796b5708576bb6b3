/-
  Contracts of the laws' helpers on slices of operations: szOpS, toOpS, eqOpS, markOpS, heldOpS.
-/
import Derived.Test.YtgmppfhokfifgaaGreatDoorPo
import Derived.Test.YtgmppfhokfifgaaGreatDoorInts
namespace Go.Proofs.YtgmppfhokfifgaaGreatDoor
set_option maxRecDepth 10000
open Go.RowKit

/-- A row of the call's own, of elements of s numbers each. -/
def OwT (s : Nat) (e : TypeId) (w : World) (lo hi : Nat) (v : Value) (os : List (List Int)) : Prop := OwR e s w lo hi v os.length (vals os.flatten) ∧ ∀ o ∈ os, o.length = s
theorem flat_len {s : Nat} {os : List (List Int)} (h : ∀ o ∈ os, o.length = s) : os.flatten.length = os.length * s := by
  induction os with
  | nil => simp
  | cons a t ih => rw [List.flatten_cons, List.length_append, ih fun o ho => h o (by simp [ho]), h a (by simp), List.length_cons, Nat.succ_mul, Nat.add_comm]
theorem flat_gi {s : Nat} {os : List (List Int)} (h : ∀ o ∈ os, o.length = s) {k j : Nat} (hk : k < os.length) (hj : j < s) : gi os.flatten (k * s + j) = gi (gl os k) j := by
  induction os generalizing k with
  | nil => simp at hk
  | cons a t ih =>
    have ha := h a (by simp)
    rw [List.flatten_cons]
    cases k with
    | zero => simp only [Nat.zero_mul, Nat.zero_add]; simp [gi, gl, List.getElem?_append_left (show j < a.length by omega)]
    | succ k =>
      have := ih (fun o ho => h o (by simp [ho])) (k := k) (by simpa using hk)
      have e : (k + 1) * s + j = a.length + (k * s + j) := by rw [ha, Nat.succ_mul]; omega
      rw [e]
      simp only [gi, gl, List.getD_cons_succ] at this ⊢
      rw [← this]
      simp [List.getD, List.getElem?_append_right (Nat.le_add_right _ _)]
theorem OwT.sl {s : Nat} {e : TypeId} {w : World} {lo hi B : Nat} {v : Value} {os : List (List Int)} (h : OwT s e w lo hi v os) (hB : hi ≤ B) : SlR s w B v os := by
  obtain ⟨h1, h2⟩ := h
  rcases h1.form with ⟨rfl, h0, _⟩ | ⟨g, cap, rfl, hlo, hhi, hn, hcap, hl, hc⟩
  · obtain rfl := List.eq_nil_of_length_eq_zero h0
    exact SlR.nil s w B
  · refine ⟨_, cap, rfl, hn, by simp only [maxLen]; omega, ⟨h2, fun h => by cases h⟩, fun hp => ⟨g, 0, rfl, by omega, fun k hk j hj => ?_⟩⟩
    have hlt : k * s + j < os.length * s := by
      have : (k + 1) * s ≤ os.length * s := Nat.mul_le_mul_right s hk
      rw [Nat.succ_mul] at this
      omega
    rw [Nat.zero_add]
    refine hc _ _ ?_
    rw [vals_get (by rw [flat_len h2]; exact hlt), flat_gi h2 hk hj]
theorem OwT.keep {s : Nat} {e : TypeId} {w w' : World} {lo hi : Nat} {v : Value} {os : List (List Int)} (h : OwT s e w lo hi v os) (hk : ∀ k, lo ≤ k → k < hi → w'.heap[k]? = w.heap[k]?) : OwT s e w' lo hi v os := ⟨h.1.keep hk, h.2⟩
theorem OwT.mono {s : Nat} {e : TypeId} {w : World} {lo hi lo' hi' : Nat} {v : Value} {os : List (List Int)} (h : OwT s e w lo hi v os) (h1 : lo' ≤ lo) (h2 : hi ≤ hi') : OwT s e w lo' hi' v os := ⟨h.1.mono h1 h2, h.2⟩
theorem OwT.below {s : Nat} {e : TypeId} {w w' : World} {lo hi B : Nat} {v : Value} {os : List (List Int)} (h : OwT s e w lo hi v os) (hb : Below B w w') (hB : hi ≤ B) : OwT s e w' lo hi v os := ⟨h.1.below hb hB, h.2⟩
theorem OwT.nil (s : Nat) (e : TypeId) (w : World) (lo hi : Nat) : OwT s e w lo hi (.slice none 0 0) [] := ⟨OwR.nil e s w lo hi, by simp⟩
theorem flat_set {s : Nat} {os : List (List Int)} (h : ∀ o ∈ os, o.length = s) {k j : Nat} (hk : k < os.length) (hj : j < s) (x : Int) : (os.set k ((gl os k).set j x)).flatten = os.flatten.set (k * s + j) x := by
  induction os generalizing k with
  | nil => simp at hk
  | cons a t ih =>
    have ha := h a (by simp)
    cases k with
    | zero =>
      simp only [List.set_cons_zero, List.flatten_cons, Nat.zero_mul, Nat.zero_add]
      rw [List.set_append_left _ _ (by omega)]
      rfl
    | succ k =>
      have := ih (fun o ho => h o (by simp [ho])) (k := k) (by simpa using hk)
      have e : (k + 1) * s + j = a.length + (k * s + j) := by rw [ha, Nat.succ_mul]; omega
      rw [List.set_cons_succ, List.flatten_cons, List.flatten_cons, e, List.set_append_right _ _ (by omega), Nat.add_sub_cancel_left, ← this]
      rfl
theorem gl_set {os : List (List Int)} {k : Nat} (h : k < os.length) (o : List Int) : gl (os.set k o) k = o := by simp [gl, List.getD, h]
theorem vals_set1 (xs : List Int) (i : Nat) (x : Int) : (vals xs).set i (.int .i64 x) = vals (xs.set i x) := by simp [vals]
/-- A store into one number of an element of a row of the call's own. -/
theorem OwT.set1 {s : Nat} {e : TypeId} {w : World} {lo hi : Nat} {g n cap : Nat} {os : List (List Int)} (h : OwT s e w lo hi (.slice (some ⟨g, 0, none⟩) n cap) os) (hn : os.length = n) (k j : Nat) (hk : k < os.length) (hj : j < s) (x : Int) :
    w.cell? ⟨g, k * s + j, none⟩ = some (.int .i64 (gi (gl os k) j)) ∧ w.frozen? ⟨g, k * s + j, none⟩ = false ∧
      OwT s e (w.setCell ⟨g, k * s + j, none⟩ (.int .i64 x)) lo hi (.slice (some ⟨g, 0, none⟩) n cap) (os.set k ((gl os k).set j x)) ∧ Chg lo hi w (w.setCell ⟨g, k * s + j, none⟩ (.int .i64 x)) := by
  subst hn
  obtain ⟨⟨h1, h2⟩, h3⟩ := h
  have hl := flat_len h3
  have hlt : k * s + j < os.length * s := by
    have : (k + 1) * s ≤ os.length * s := Nat.mul_le_mul_right s hk
    rw [Nat.succ_mul] at this
    omega
  have hg := h2 g rfl
  have hlo := (h1.lt g rfl).1
  have hs := h1.stored (k * s + j) (.int .i64 x)
  refine ⟨?_, h1.frozenAt _, ⟨⟨?_, h2⟩, fun o ho => ?_⟩, rfl, rfl, rfl, by simp [World.setCell], fun i _ hd => Below.heap_setCell _ _ _ _ (by simp only; omega)⟩
  · rw [h1.cellAt _ hlt, vals_get (by rw [hl]; exact hlt), flat_gi h3 hk hj]
  · rw [List.length_set, flat_set h3 hk hj, ← vals_set1]
    exact hs.1
  · rcases List.mem_or_eq_of_mem_set ho with ho | rfl
    · exact h3 o ho
    · rw [List.length_set]; exact h3 _ (gl_mem hk)
theorem OwT.shape {s : Nat} {e : TypeId} {w : World} {lo hi : Nat} {v : Value} {os : List (List Int)} (h : OwT s e w lo hi v os) (hp : 0 < os.length) : ∃ g cap, v = .slice (some ⟨g, 0, none⟩) os.length cap ∧ lo ≤ g ∧ g < hi := by
  rcases h.1.form with ⟨rfl, h0, _⟩ | ⟨g, cap, rfl, hlo, hhi, _⟩
  · omega
  · exact ⟨g, cap, rfl, hlo, hhi⟩
/-- An element of eight numbers laid anew, number by number. -/
theorem OwT.set8 {e : TypeId} {w : World} {lo hi : Nat} {g n cap : Nat} {os : List (List Int)} (h : OwT 8 e w lo hi (.slice (some ⟨g, 0, none⟩) n cap) os) (hn : os.length = n) (k : Nat) (hk : k < os.length) (a0 a1 a2 a3 a4 a5 a6 a7 : Int) :
    (∀ j, j < 8 → w.cell? ⟨g, k * 8 + j, none⟩ = some (.int .i64 (gi (gl os k) j)) ∧ w.frozen? ⟨g, k * 8 + j, none⟩ = false) ∧ ∃ W : World, W = ((((((((w.setCell ⟨g, k * 8, none⟩ (.int .i64 a0)).setCell ⟨g, k * 8 + 1, none⟩ (.int .i64 a1)).setCell ⟨g, k * 8 + 2, none⟩ (.int .i64 a2)).setCell ⟨g, k * 8 + 3, none⟩ (.int .i64 a3)).setCell ⟨g, k * 8 + 4, none⟩ (.int .i64 a4)).setCell ⟨g, k * 8 + 5, none⟩ (.int .i64 a5)).setCell ⟨g, k * 8 + 6, none⟩ (.int .i64 a6)).setCell ⟨g, k * 8 + 7, none⟩ (.int .i64 a7)) ∧
      OwT 8 e W lo hi (.slice (some ⟨g, 0, none⟩) n cap) (os.set k [a0, a1, a2, a3, a4, a5, a6, a7]) ∧ Chg lo hi w W := by
  have h8 := h.2 _ (gl_mem hk)
  refine ⟨fun j hj => ?_, _, rfl, ?_⟩
  · obtain ⟨x1, x2, _⟩ := h.set1 hn k j hk hj 0
    exact ⟨x1, x2⟩
  · obtain ⟨-, -, o0, d0⟩ := h.set1 hn k 0 hk (by omega) a0
    rw [Nat.add_zero] at o0 d0
    generalize w.setCell ⟨g, k * 8, none⟩ (.int .i64 a0) = w0 at o0 d0 ⊢
    obtain ⟨-, -, o1, d1⟩ := o0.set1 (by simpa using hn) k 1 (by simpa using hk) (by omega) a1
    rw [gl_set hk, List.set_set] at o1
    generalize w0.setCell ⟨g, k * 8 + 1, none⟩ (.int .i64 a1) = w1 at o1 d1 ⊢
    obtain ⟨-, -, o2, d2⟩ := o1.set1 (by simpa using hn) k 2 (by simpa using hk) (by omega) a2
    rw [gl_set hk, List.set_set] at o2
    generalize w1.setCell ⟨g, k * 8 + 2, none⟩ (.int .i64 a2) = w2 at o2 d2 ⊢
    obtain ⟨-, -, o3, d3⟩ := o2.set1 (by simpa using hn) k 3 (by simpa using hk) (by omega) a3
    rw [gl_set hk, List.set_set] at o3
    generalize w2.setCell ⟨g, k * 8 + 3, none⟩ (.int .i64 a3) = w3 at o3 d3 ⊢
    obtain ⟨-, -, o4, d4⟩ := o3.set1 (by simpa using hn) k 4 (by simpa using hk) (by omega) a4
    rw [gl_set hk, List.set_set] at o4
    generalize w3.setCell ⟨g, k * 8 + 4, none⟩ (.int .i64 a4) = w4 at o4 d4 ⊢
    obtain ⟨-, -, o5, d5⟩ := o4.set1 (by simpa using hn) k 5 (by simpa using hk) (by omega) a5
    rw [gl_set hk, List.set_set] at o5
    generalize w4.setCell ⟨g, k * 8 + 5, none⟩ (.int .i64 a5) = w5 at o5 d5 ⊢
    obtain ⟨-, -, o6, d6⟩ := o5.set1 (by simpa using hn) k 6 (by simpa using hk) (by omega) a6
    rw [gl_set hk, List.set_set] at o6
    generalize w5.setCell ⟨g, k * 8 + 6, none⟩ (.int .i64 a6) = w6 at o6 d6 ⊢
    obtain ⟨-, -, o7, d7⟩ := o6.set1 (by simpa using hn) k 7 (by simpa using hk) (by omega) a7
    rw [gl_set hk, List.set_set] at o7
    generalize w6.setCell ⟨g, k * 8 + 7, none⟩ (.int .i64 a7) = w7 at o7 d7 ⊢
    generalize gl os k = o at *
    match o, h8 with
    | [b0, b1, b2, b3, b4, b5, b6, b7], _ => exact ⟨o7, ((((((d0.trans d1).trans d2).trans d3).trans d4).trans d5).trans d6).trans d7⟩
theorem op_info : (Tryz.prog.info? 38).map (fun i => (i.zero, i.size, i.bytes)) = some (some (.agg #[.int .i64 0, .int .i64 0, .int .i64 0, .int .i64 0, .int .i64 0, .int .i64 0, .int .i64 0, .int .i64 0]), 8, 64) := by kernel_rfl
set_option maxHeartbeats 400000 in
theorem eqNeedle_yes (a b : Int) (w : World) : Calls Tryz.prog 46 #[.agg #[.int .i64 a, .int .i64 b], .agg #[.int .i64 a, .int .i64 b]] w fun e w' => e = .returned (.bool true) ∧ Below w.heap.size w w' := by
  go_enter Tryz.func46, Tryz.ntmps46
  go_wp2
  go_ret
  exact ⟨rfl, al2 _ _ _⟩
set_option maxHeartbeats 1600000 in
theorem eqOp_yes (k d fb fa tb ta c r : Int) (w : World) : Calls Tryz.prog 25 #[.agg #[.int .i64 k, .int .i64 d, .int .i64 fb, .int .i64 fa, .int .i64 tb, .int .i64 ta, .int .i64 c, .int .i64 r], .agg #[.int .i64 k, .int .i64 d, .int .i64 fb, .int .i64 fa, .int .i64 tb, .int .i64 ta, .int .i64 c, .int .i64 r]] w fun e w' => e = .returned (.bool true) ∧ Below w.heap.size w w' := by
  go_enter Tryz.func25, Tryz.ntmps25
  go_wp2_with fail
  refine (eqNeedle_yes _ _ _).mono ?_
  rintro e w1 ⟨rfl, hb1⟩
  obtain ⟨hc, hf⟩ := bcell hb1
  have hz1 : w.heap.size + 1 < w1.heap.size := by have := hb1.size; simp at this; omega
  have hz0 : w.heap.size < w1.heap.size := by omega
  go_wp2_with fail
  refine (eqNeedle_yes _ _ _).mono ?_
  rintro e w2 ⟨rfl, hb2⟩
  obtain ⟨hc2, hf2⟩ := bcell hb2
  have hz2 : w.heap.size + 1 < w2.heap.size := Nat.lt_of_lt_of_le hz1 hb2.size
  go_wp2_with fail
  go_ret
  exact ⟨rfl, (al2 _ _ _).trans ((hb1.mono (by simp; omega)).trans (hb2.mono (by omega)))⟩
set_option maxHeartbeats 1600000 in
theorem eqOps_yes {v1 v2 : Value} {os : List (List Int)} {B1 B2 : Nat} {w : World} (h1 : SlR 8 w B1 v1 os) (h2 : SlR 8 w B2 v2 os) (hB1 : B1 ≤ w.heap.size) (hB2 : B2 ≤ w.heap.size) :
    Calls Tryz.prog 7 #[v1, v2] w fun e w' => e = .returned (.bool true) ∧ Below w.heap.size w w' := by
  obtain ⟨A1, c1, rfl, hl1, hm1, -, hc1⟩ := h1
  obtain ⟨A2, c2, rfl, hl2, hm2, -, hc2⟩ := h2
  unfold maxLen at hm1 hm2
  have HC1 := Lib.hid hc1
  have HC2 := Lib.hid hc2
  clear hc1 hc2
  go_enter Tryz.func7, Tryz.ntmps7
  go_wp2
  go_loopw [5] (fun i wr => ∃ k : Nat, k ≤ os.length ∧ i = .int .i64 k ∧ Below w.heap.size w wr) (fun i _ => os.length - (intOf i).toNat)
  case atStart => exact ⟨0, Nat.zero_le _, rfl, Below.refl _ _⟩
  case round =>
    obtain ⟨k, hk, rfl, hb⟩ := hrel
    by_cases hlt : k < os.length
    · obtain ⟨b1, o1, rfl, hb1, hcell1⟩ := HC1.out (by omega)
      obtain ⟨b2, o2, rfl, hb2, hcell2⟩ := HC2.out (by omega)
      obtain ⟨q0, q1, q2, q3, q4, q5, q6, q7⟩ := opAt_of (fun j hj => (show wr.cell? ⟨b1, o1 + k * 8 + j, none⟩ = some (.int .i64 (gi (gl os k) j)) by rw [hb.cell (by simp only; omega)]; exact hcell1 k hlt j hj))
      obtain ⟨t0, t1, t2, t3, t4, t5, t6, t7⟩ := opAt_of (fun j hj => (show wr.cell? ⟨b2, o2 + k * 8 + j, none⟩ = some (.int .i64 (gi (gl os k) j)) by rw [hb.cell (by simp only; omega)]; exact hcell2 k hlt j hj))
      replace q0 := cell_regrown q0
      replace q1 := cell_regrown q1
      replace q2 := cell_regrown q2
      replace q3 := cell_regrown q3
      replace q4 := cell_regrown q4
      replace q5 := cell_regrown q5
      replace q6 := cell_regrown q6
      replace q7 := cell_regrown q7
      replace t0 := cell_regrown t0
      replace t1 := cell_regrown t1
      replace t2 := cell_regrown t2
      replace t3 := cell_regrown t3
      replace t4 := cell_regrown t4
      replace t5 := cell_regrown t5
      replace t6 := cell_regrown t6
      replace t7 := cell_regrown t7
      clear hcell1 hcell2
      generalize gl os k = o at *
      go_wp2
      refine wp_region_quiet_below (by kernel_rfl) (by kernel_rfl) ?_
      repeat (go_big_quiet_step (first | (go_at_call 25; exact Calls.regrown_of (eqOp_yes _ _ _ _ _ _ _ _ _))))
      refine wpQuiet_nil ?_
      intro _ hw'
      obtain ⟨⟨dq, osq⟩, hw''⟩ := hw'
      subst hw''
      go_wp2
      go_roundw
      case rel => exact ⟨k + 1, by omega, by go_num, hb.trans ((below_regrown _ _ _).mono hb.size)⟩
      case measure => simp [intOf]; omega
    · go_wp2
      go_ret
      exact ⟨rfl, hb⟩
/-- What markOpS leaves. -/
def markRow (c : Int) : List Int := [c, c + 1, c + 2, c + 3, c + 4, c + 5, c + 6, c + 7]
def markO (c : Int) (n : Nat) : List (List Int) := (List.range n).map fun (i : Nat) => markRow (c + 8 * (i : Int))
theorem markO_len (c : Int) (n : Nat) : (markO c n).length = n := by simp [markO]
theorem markO_gl {c : Int} {n k : Nat} (h : k < n) : gl (markO c n) k = markRow (c + 8 * (k : Int)) := by rw [gl_eq (by rw [markO_len]; exact h)]; simp [markO]
theorem markO_8 {c : Int} {n : Nat} : ∀ o ∈ markO c n, o.length = 8 := fun o ho => by
  simp only [markO, List.mem_map] at ho
  obtain ⟨i, -, rfl⟩ := ho
  rfl
def markedO (c : Int) (os : List (List Int)) (k : Nat) : List (List Int) := markO c k ++ os.drop k
theorem markedO_zero (c : Int) (os : List (List Int)) : markedO c os 0 = os := by simp [markedO, markO]
theorem markedO_all (c : Int) (os : List (List Int)) : markedO c os os.length = markO c os.length := by simp [markedO]
theorem markedO_len (c : Int) (os : List (List Int)) (k : Nat) (h : k ≤ os.length) : (markedO c os k).length = os.length := by simp [markedO, markO_len]; omega
theorem markedO_set (c : Int) (os : List (List Int)) (k : Nat) (h : k < os.length) : (markedO c os k).set k (markRow (c + 8 * (k : Int))) = markedO c os (k + 1) := by
  unfold markedO
  rw [List.set_append_right _ _ (by rw [markO_len]; exact Nat.le_refl _), markO_len, Nat.sub_self, drop_gl h, List.set_cons_zero]
  simp [markO, List.range_succ]
set_option maxHeartbeats 3200000 in
theorem markOps_any {v : Value} {os : List (List Int)} {lo hi : Nat} {c : Int} {w : World} (h : OwT 8 38 w lo hi v os) (hsz : os.length ≤ 1048576) (hc0 : 0 ≤ c) (hc1 : c ≤ 1000000000) :
    Calls Tryz.prog 8 #[v, .int .i64 c] w fun e w' => e = .returned (.int .i64 (c + 8 * os.length)) ∧ OwT 8 38 w' lo hi v (markO c os.length) ∧ Chg lo hi w w' := by
  rcases Nat.eq_zero_or_pos os.length with h0 | hp
  · obtain rfl := List.eq_nil_of_length_eq_zero h0
    obtain ⟨A, cc, rfl, -⟩ := id (h.sl (Nat.le_refl _))
    go_enter Tryz.func8, Tryz.ntmps8
    go_wp2
    go_loopw [1, 5] (fun x i wr => i = .int .i64 0 ∧ x = .int .i64 c ∧ wr = w) (fun _ i _ => 0)
    case atStart => exact ⟨rfl, rfl, rfl⟩
    case round =>
      obtain ⟨rfl, rfl, rfl⟩ := hrel
      go_wp2
      go_ret
      exact ⟨by simp, h, Chg.refl _ _ _⟩
  · obtain ⟨g, cap, rfl, -, -⟩ := h.shape hp
    go_enter Tryz.func8, Tryz.ntmps8
    go_wp2
    go_loopw [1, 5] (fun x i wr => ∃ k : Nat, k ≤ os.length ∧ i = .int .i64 k ∧ x = .int .i64 (c + 8 * k) ∧ OwT 8 38 wr lo hi (.slice (some ⟨g, 0, none⟩) os.length cap) (markedO c os k) ∧ Chg lo hi w wr) (fun _ i _ => os.length - (intOf i).toNat)
    case atStart => exact ⟨0, Nat.zero_le _, rfl, by simp, by rw [markedO_zero]; exact h, Chg.refl _ _ _⟩
    case round =>
      obtain ⟨k, hk, rfl, rfl, hO, hch0⟩ := hrel
      by_cases hlt : k < os.length
      · have hml := markedO_len c os k hk
        obtain ⟨hcs, W, hW, hO3, hch⟩ := OwT.set8 hO hml k (by rw [hml]; exact hlt) (c + 8 * (k : Int)) (c + 8 * (k : Int) + 1) (c + 8 * (k : Int) + 2) (c + 8 * (k : Int) + 3) (c + 8 * (k : Int) + 4) (c + 8 * (k : Int) + 5) (c + 8 * (k : Int) + 6) (c + 8 * (k : Int) + 7)
        obtain ⟨t0, u0⟩ := hcs 0 (by omega)
        obtain ⟨t1, u1⟩ := hcs 1 (by omega)
        obtain ⟨t2, u2⟩ := hcs 2 (by omega)
        obtain ⟨t3, u3⟩ := hcs 3 (by omega)
        obtain ⟨t4, u4⟩ := hcs 4 (by omega)
        obtain ⟨t5, u5⟩ := hcs 5 (by omega)
        obtain ⟨t6, u6⟩ := hcs 6 (by omega)
        obtain ⟨t7, u7⟩ := hcs 7 (by omega)
        rw [Nat.add_zero] at t0 u0
        generalize hD : c + 8 * (k : Int) = D at *
        have hD0 : 0 ≤ D ∧ D ≤ 1010000000 := by omega
        obtain ⟨d0, d1⟩ := hD0
        have HW := Lib.hid hW
        have HO3 := Lib.hid hO3
        have HCH := Lib.hid hch
        have HD := Lib.hid hD
        clear hcs hW hO3 hch hD
        go_wp2_with fail
        go_roundw
        case rel =>
          simp only [Nat.add_assoc, Nat.reduceAdd, Int.add_assoc, Int.reduceAdd]
          rw [← HW.out]
          have h3 := HO3.out
          have hs := markedO_set c os k hlt
          rw [HD.out] at hs
          rw [show [D, D + 1, D + 2, D + 3, D + 4, D + 5, D + 6, D + 7] = markRow D from rfl, hs] at h3
          exact ⟨k + 1, by omega, by go_num, by rw [← HD.out]; go_num, h3, hch0.trans HCH.out⟩
        case measure => simp [intOf]; omega
      · obtain rfl : k = os.length := by omega
        rw [markedO_all] at hO
        go_wp2
        go_ret
        exact ⟨rfl, hO, hch0⟩
set_option maxHeartbeats 3200000 in
theorem heldOps_any {v : Value} {n : Nat} {B : Nat} {c : Int} {w : World} (h : SlR 8 w B v (markO c n)) (hsz : n ≤ 1048576) (hc0 : 0 ≤ c) (hc1 : c ≤ 1000000000) :
    Calls Tryz.prog 9 #[v, .int .i64 c] w fun e w' => e = .returned (.int .i64 (c + 8 * n)) ∧ w = w' := by
  obtain ⟨A, cap, rfl, hl, hm, -, hc⟩ := h
  rw [markO_len] at hl hc ⊢
  unfold maxLen at hm
  have HC := Lib.hid hc
  clear hc
  go_enter Tryz.func9, Tryz.ntmps9
  go_wp2
  go_loopw [1, 5] (fun x i wr => ∃ k : Nat, k ≤ n ∧ i = .int .i64 k ∧ x = .int .i64 (c + 8 * k) ∧ wr = w) (fun _ i _ => n - (intOf i).toNat)
  case atStart => exact ⟨0, Nat.zero_le _, rfl, by simp, rfl⟩
  case round =>
    obtain ⟨k, hk, rfl, rfl, rfl⟩ := hrel
    by_cases hlt : k < n
    · obtain ⟨b, off, rfl, hbB, hcell⟩ := HC.out (by omega)
      obtain ⟨q0, q1, q2, q3, q4, q5, q6, q7⟩ := opAt_of (f := fun j => gi (markRow (c + 8 * (k : Int))) j) (fun j hj => (show wr.cell? ⟨b, off + k * 8 + j, none⟩ = some (.int .i64 (gi (markRow (c + 8 * (k : Int))) j)) by rw [← markO_gl hlt]; exact hcell k hlt j hj))
      simp only [markRow, gi, List.getD_cons_zero, List.getD_cons_succ] at q0 q1 q2 q3 q4 q5 q6 q7
      clear hcell
      generalize hD : c + 8 * (k : Int) = D at *
      have hD0 : 0 ≤ D ∧ D ≤ 1010000000 := by omega
      obtain ⟨d0, d1⟩ := hD0
      have HD := Lib.hid hD
      clear hD
      go_wp2_with fail
      go_roundw
      case rel => exact ⟨k + 1, by omega, by go_num, by rw [← HD.out]; go_num, trivial⟩
      case measure => simp [intOf]; omega
    · obtain rfl : k = n := by omega
      go_wp2
      go_ret
      exact ⟨rfl, rfl⟩
end Go.Proofs.YtgmppfhokfifgaaGreatDoor
