/-
  Contracts of the laws' helpers on slices of operations: szOpS, toOpS, eqOpS, markOpS, heldOpS.
-/
import Derived.Test.YtgmppfhokfifgaaGreatDoorPo
import Derived.Test.YtgmppfhokfifgaaGreatDoorInts
namespace Go.Proofs.YtgmppfhokfifgaaGreatDoor
set_option maxRecDepth 10000
open Go.RowKit

/-- A row of the call's own, of elements of s numbers each. -/
def OwT (s : Nat) (e : TypeId) (w : World) (lo hi : Nat) (v : Value) (os : List (List Int)) : Prop := OwR e s w lo hi v os.length (vals os.flatten) ∧ ∀ o ∈ os, o.length = s
theorem flat_len {s : Nat} {os : List (List Int)} (h : ∀ o ∈ os, o.length = s) : os.flatten.length = os.length * s := by
  induction os with
  | nil => simp
  | cons a t ih => rw [List.flatten_cons, List.length_append, ih fun o ho => h o (by simp [ho]), h a (by simp), List.length_cons, Nat.succ_mul, Nat.add_comm]
theorem flat_gi {s : Nat} {os : List (List Int)} (h : ∀ o ∈ os, o.length = s) {k j : Nat} (hk : k < os.length) (hj : j < s) : gi os.flatten (k * s + j) = gi (gl os k) j := by
  induction os generalizing k with
  | nil => simp at hk
  | cons a t ih =>
    have ha := h a (by simp)
    rw [List.flatten_cons]
    cases k with
    | zero => simp only [Nat.zero_mul, Nat.zero_add]; simp [gi, gl, List.getElem?_append_left (show j < a.length by omega)]
    | succ k =>
      have := ih (fun o ho => h o (by simp [ho])) (k := k) (by simpa using hk)
      have e : (k + 1) * s + j = a.length + (k * s + j) := by rw [ha, Nat.succ_mul]; omega
      rw [e]
      simp only [gi, gl, List.getD_cons_succ] at this ⊢
      rw [← this]
      simp [List.getD, List.getElem?_append_right (Nat.le_add_right _ _)]
theorem OwT.sl {s : Nat} {e : TypeId} {w : World} {lo hi B : Nat} {v : Value} {os : List (List Int)} (h : OwT s e w lo hi v os) (hB : hi ≤ B) : SlR s w B v os := by
  obtain ⟨h1, h2⟩ := h
  rcases h1.form with ⟨rfl, h0, _⟩ | ⟨g, cap, rfl, hlo, hhi, hn, hcap, hl, hc⟩
  · obtain rfl := List.eq_nil_of_length_eq_zero h0
    exact SlR.nil s w B
  · refine ⟨_, cap, rfl, hn, by simp only [maxLen]; omega, ⟨h2, fun h => by cases h⟩, fun hp => ⟨g, 0, rfl, by omega, fun k hk j hj => ?_⟩⟩
    have hlt : k * s + j < os.length * s := by
      have : (k + 1) * s ≤ os.length * s := Nat.mul_le_mul_right s hk
      rw [Nat.succ_mul] at this
      omega
    rw [Nat.zero_add]
    refine hc _ _ ?_
    rw [vals_get (by rw [flat_len h2]; exact hlt), flat_gi h2 hk hj]
theorem OwT.keep {s : Nat} {e : TypeId} {w w' : World} {lo hi : Nat} {v : Value} {os : List (List Int)} (h : OwT s e w lo hi v os) (hk : ∀ k, lo ≤ k → k < hi → w'.heap[k]? = w.heap[k]?) : OwT s e w' lo hi v os := ⟨h.1.keep hk, h.2⟩
theorem OwT.mono {s : Nat} {e : TypeId} {w : World} {lo hi lo' hi' : Nat} {v : Value} {os : List (List Int)} (h : OwT s e w lo hi v os) (h1 : lo' ≤ lo) (h2 : hi ≤ hi') : OwT s e w lo' hi' v os := ⟨h.1.mono h1 h2, h.2⟩
theorem OwT.below {s : Nat} {e : TypeId} {w w' : World} {lo hi B : Nat} {v : Value} {os : List (List Int)} (h : OwT s e w lo hi v os) (hb : Below B w w') (hB : hi ≤ B) : OwT s e w' lo hi v os := ⟨h.1.below hb hB, h.2⟩
theorem OwT.nil (s : Nat) (e : TypeId) (w : World) (lo hi : Nat) : OwT s e w lo hi (.slice none 0 0) [] := ⟨OwR.nil e s w lo hi, by simp⟩
theorem flat_set {s : Nat} {os : List (List Int)} (h : ∀ o ∈ os, o.length = s) {k j : Nat} (hk : k < os.length) (hj : j < s) (x : Int) : (os.set k ((gl os k).set j x)).flatten = os.flatten.set (k * s + j) x := by
  induction os generalizing k with
  | nil => simp at hk
  | cons a t ih =>
    have ha := h a (by simp)
    cases k with
    | zero =>
      simp only [List.set_cons_zero, List.flatten_cons, Nat.zero_mul, Nat.zero_add]
      rw [List.set_append_left _ _ (by omega)]
      rfl
    | succ k =>
      have := ih (fun o ho => h o (by simp [ho])) (k := k) (by simpa using hk)
      have e : (k + 1) * s + j = a.length + (k * s + j) := by rw [ha, Nat.succ_mul]; omega
      rw [List.set_cons_succ, List.flatten_cons, List.flatten_cons, e, List.set_append_right _ _ (by omega), Nat.add_sub_cancel_left, ← this]
      rfl
theorem gl_set {os : List (List Int)} {k : Nat} (h : k < os.length) (o : List Int) : gl (os.set k o) k = o := by simp [gl, List.getD, h]
theorem vals_set1 (xs : List Int) (i : Nat) (x : Int) : (vals xs).set i (.int .i64 x) = vals (xs.set i x) := by simp [vals]
/-- A store into one number of an element of a row of the call's own. -/
theorem OwT.set1 {s : Nat} {e : TypeId} {w : World} {lo hi : Nat} {g n cap : Nat} {os : List (List Int)} (h : OwT s e w lo hi (.slice (some ⟨g, 0, none⟩) n cap) os) (hn : os.length = n) (k j : Nat) (hk : k < os.length) (hj : j < s) (x : Int) :
    w.cell? ⟨g, k * s + j, none⟩ = some (.int .i64 (gi (gl os k) j)) ∧ w.frozen? ⟨g, k * s + j, none⟩ = false ∧
      OwT s e (w.setCell ⟨g, k * s + j, none⟩ (.int .i64 x)) lo hi (.slice (some ⟨g, 0, none⟩) n cap) (os.set k ((gl os k).set j x)) ∧ Chg lo hi w (w.setCell ⟨g, k * s + j, none⟩ (.int .i64 x)) := by
  subst hn
  obtain ⟨⟨h1, h2⟩, h3⟩ := h
  have hl := flat_len h3
  have hlt : k * s + j < os.length * s := by
    have : (k + 1) * s ≤ os.length * s := Nat.mul_le_mul_right s hk
    rw [Nat.succ_mul] at this
    omega
  have hg := h2 g rfl
  have hlo := (h1.lt g rfl).1
  have hs := h1.stored (k * s + j) (.int .i64 x)
  refine ⟨?_, h1.frozenAt _, ⟨⟨?_, h2⟩, fun o ho => ?_⟩, rfl, rfl, rfl, by simp [World.setCell], fun i _ hd => Below.heap_setCell _ _ _ _ (by simp only; omega)⟩
  · rw [h1.cellAt _ hlt, vals_get (by rw [hl]; exact hlt), flat_gi h3 hk hj]
  · rw [List.length_set, flat_set h3 hk hj, ← vals_set1]
    exact hs.1
  · rcases List.mem_or_eq_of_mem_set ho with ho | rfl
    · exact h3 o ho
    · rw [List.length_set]; exact h3 _ (gl_mem hk)
theorem OwT.shape {s : Nat} {e : TypeId} {w : World} {lo hi : Nat} {v : Value} {os : List (List Int)} (h : OwT s e w lo hi v os) (hp : 0 < os.length) : ∃ g cap, v = .slice (some ⟨g, 0, none⟩) os.length cap ∧ lo ≤ g ∧ g < hi := by
  rcases h.1.form with ⟨rfl, h0, _⟩ | ⟨g, cap, rfl, hlo, hhi, _⟩
  · omega
  · exact ⟨g, cap, rfl, hlo, hhi⟩
/-- An element of eight numbers laid anew, number by number. -/
theorem OwT.set8 {e : TypeId} {w : World} {lo hi : Nat} {g n cap : Nat} {os : List (List Int)} (h : OwT 8 e w lo hi (.slice (some ⟨g, 0, none⟩) n cap) os) (hn : os.length = n) (k : Nat) (hk : k < os.length) (a0 a1 a2 a3 a4 a5 a6 a7 : Int) :
    (∀ j, j < 8 → w.cell? ⟨g, k * 8 + j, none⟩ = some (.int .i64 (gi (gl os k) j)) ∧ w.frozen? ⟨g, k * 8 + j, none⟩ = false) ∧ ∃ W : World, W = ((((((((w.setCell ⟨g, k * 8, none⟩ (.int .i64 a0)).setCell ⟨g, k * 8 + 1, none⟩ (.int .i64 a1)).setCell ⟨g, k * 8 + 2, none⟩ (.int .i64 a2)).setCell ⟨g, k * 8 + 3, none⟩ (.int .i64 a3)).setCell ⟨g, k * 8 + 4, none⟩ (.int .i64 a4)).setCell ⟨g, k * 8 + 5, none⟩ (.int .i64 a5)).setCell ⟨g, k * 8 + 6, none⟩ (.int .i64 a6)).setCell ⟨g, k * 8 + 7, none⟩ (.int .i64 a7)) ∧
      OwT 8 e W lo hi (.slice (some ⟨g, 0, none⟩) n cap) (os.set k [a0, a1, a2, a3, a4, a5, a6, a7]) ∧ Chg lo hi w W := by
  have h8 := h.2 _ (gl_mem hk)
  refine ⟨fun j hj => ?_, _, rfl, ?_⟩
  · obtain ⟨x1, x2, _⟩ := h.set1 hn k j hk hj 0
    exact ⟨x1, x2⟩
  · obtain ⟨-, -, o0, d0⟩ := h.set1 hn k 0 hk (by omega) a0
    rw [Nat.add_zero] at o0 d0
    generalize w.setCell ⟨g, k * 8, none⟩ (.int .i64 a0) = w0 at o0 d0 ⊢
    obtain ⟨-, -, o1, d1⟩ := o0.set1 (by simpa using hn) k 1 (by simpa using hk) (by omega) a1
    rw [gl_set hk, List.set_set] at o1
    generalize w0.setCell ⟨g, k * 8 + 1, none⟩ (.int .i64 a1) = w1 at o1 d1 ⊢
    obtain ⟨-, -, o2, d2⟩ := o1.set1 (by simpa using hn) k 2 (by simpa using hk) (by omega) a2
    rw [gl_set hk, List.set_set] at o2
    generalize w1.setCell ⟨g, k * 8 + 2, none⟩ (.int .i64 a2) = w2 at o2 d2 ⊢
    obtain ⟨-, -, o3, d3⟩ := o2.set1 (by simpa using hn) k 3 (by simpa using hk) (by omega) a3
    rw [gl_set hk, List.set_set] at o3
    generalize w2.setCell ⟨g, k * 8 + 3, none⟩ (.int .i64 a3) = w3 at o3 d3 ⊢
    obtain ⟨-, -, o4, d4⟩ := o3.set1 (by simpa using hn) k 4 (by simpa using hk) (by omega) a4
    rw [gl_set hk, List.set_set] at o4
    generalize w3.setCell ⟨g, k * 8 + 4, none⟩ (.int .i64 a4) = w4 at o4 d4 ⊢
    obtain ⟨-, -, o5, d5⟩ := o4.set1 (by simpa using hn) k 5 (by simpa using hk) (by omega) a5
    rw [gl_set hk, List.set_set] at o5
    generalize w4.setCell ⟨g, k * 8 + 5, none⟩ (.int .i64 a5) = w5 at o5 d5 ⊢
    obtain ⟨-, -, o6, d6⟩ := o5.set1 (by simpa using hn) k 6 (by simpa using hk) (by omega) a6
    rw [gl_set hk, List.set_set] at o6
    generalize w5.setCell ⟨g, k * 8 + 6, none⟩ (.int .i64 a6) = w6 at o6 d6 ⊢
    obtain ⟨-, -, o7, d7⟩ := o6.set1 (by simpa using hn) k 7 (by simpa using hk) (by omega) a7
    rw [gl_set hk, List.set_set] at o7
    generalize w6.setCell ⟨g, k * 8 + 7, none⟩ (.int .i64 a7) = w7 at o7 d7 ⊢
    generalize gl os k = o at *
    match o, h8 with
    | [b0, b1, b2, b3, b4, b5, b6, b7], _ => exact ⟨o7, ((((((d0.trans d1).trans d2).trans d3).trans d4).trans d5).trans d6).trans d7⟩
theorem op_info : (Tryz.prog.info? 38).map (fun i => (i.zero, i.size, i.bytes)) = some (some (.agg #[.int .i64 0, .int .i64 0, .int .i64 0, .int .i64 0, .int .i64 0, .int .i64 0, .int .i64 0, .int .i64 0]), 8, 64) := by kernel_rfl
end Go.Proofs.YtgmppfhokfifgaaGreatDoor
