/-
  Plain laws: what reading a program from its text gives.
-/
import Derived.Test.YtgmppfhokfifgaaGreatDoorGtd
namespace Go.Proofs.YtgmppfhokfifgaaGreatDoor
set_option maxRecDepth 10000
open Go.RowKit Go.Sort

def widB : ByteArray := { data := #[119, 105, 100, 116, 104, 32] }
theorem tail_app (a b : ByteArray) : (a ++ b).extract a.size (a ++ b).size = b := by
  apply ba_ext
  rw [ByteArray.data_extract, Array.toList_extract, List.extract_eq_take_drop, ByteArray.data_append, Array.toList_append, ByteArray.size_append, ← tl_len_ a, ← tl_len_ b, List.drop_left, List.take_of_length_le (by omega)]
/-- The width that a line tells, 0 if none. -/
def widC (x : ByteArray) : Int :=
  if widB ++ x.extract 6 x.size = x ∧ (numC (x.extract 6 x.size)).2 = true ∧ 1 ≤ (numC (x.extract 6 x.size)).1 ∧ (numC (x.extract 6 x.size)).1 ≤ 24 then (numC (x.extract 6 x.size)).1 else 0
theorem widC_no {x : ByteArray} (h : widB ++ x.extract 6 x.size ≠ x) : widC x = 0 := by unfold widC; rw [if_neg (fun q => h q.1)]
theorem widC_num {x t : ByteArray} (ht : widB ++ t = x) (h : (numC t).2 = false) : widC x = 0 := by
  have e : x.extract 6 x.size = t := by rw [← ht]; exact tail_app widB t
  unfold widC
  rw [e, h, if_neg (fun q => by cases q.2.1)]
theorem widC_rng {x t : ByteArray} (ht : widB ++ t = x) (h : ¬ (1 ≤ (numC t).1 ∧ (numC t).1 ≤ 24)) : widC x = 0 := by
  have e : x.extract 6 x.size = t := by rw [← ht]; exact tail_app widB t
  unfold widC
  rw [e, if_neg (fun q => h q.2.2)]
theorem widC_yes {x t : ByteArray} (ht : widB ++ t = x) (h1 : (numC t).2 = true) (h2 : 1 ≤ (numC t).1 ∧ (numC t).1 ≤ 24) : widC x = (numC t).1 := by
  have e : x.extract 6 x.size = t := by rw [← ht]; exact tail_app widB t
  unfold widC
  rw [e, if_pos ⟨ht, h1, h2⟩]
theorem widC_rng_ (x : ByteArray) : 0 ≤ widC x ∧ widC x ≤ 24 := by unfold widC; split <;> omega
/-- The lines that are operations which fit. -/
structure LnOk (W : Int) (ls : List ByteArray) (k : Nat) (os : List (List Int)) : Prop where
  len : os.length = k
  ok : ∀ j, j < k → RdRT (gs ls (j + 1)) (gl os j) true ∧ fitB W (gl os j) = true
def LnBad (W : Int) (x : ByteArray) : Prop := ∀ o, RdRT x o true → fitB W o = false
theorem LnOk.unique {W : Int} {ls : List ByteArray} {k : Nat} {os os' : List (List Int)} (h : LnOk W ls k os) (h' : LnOk W ls k os') : os = os' :=
  gl_ext (by rw [h.len, h'.len]) fun j hj => ((h.ok j (by rw [h.len] at hj; exact hj)).1.unique (h'.ok j (by rw [h.len] at hj; exact hj)).1).1
theorem LnOk.bad {W : Int} {ls : List ByteArray} {k j : Nat} {os : List (List Int)} (h : LnOk W ls k os) (hj : j < k) (hb : LnBad W (gs ls (j + 1))) : False := by
  have h1 := h.ok j hj
  rw [hb _ h1.1] at h1
  cases h1.2
theorem LnOk.nil (W : Int) (ls : List ByteArray) : LnOk W ls 0 [] := ⟨rfl, fun j hj => by omega⟩
theorem gl_lastT (os : List (List Int)) (o : List Int) : gl (os ++ [o]) os.length = o := by simp [gl, List.getD]
theorem gl_init {os : List (List Int)} {o : List Int} {j : Nat} (h : j < os.length) : gl (os ++ [o]) j = gl os j := by simp [gl, List.getD, List.getElem?_append_left h]
theorem LnOk.snoc {W : Int} {ls : List ByteArray} {k : Nat} {os : List (List Int)} {o : List Int} (h : LnOk W ls k os) (h1 : RdRT (gs ls (k + 1)) o true) (h2 : fitB W o = true) : LnOk W ls (k + 1) (os ++ [o]) := by
  refine ⟨by rw [List.length_append, h.len]; rfl, fun j hj => ?_⟩
  by_cases e : j = k
  · subst e
    rw [show gl (os ++ [o]) j = o by rw [← h.len]; exact gl_lastT os o]
    exact ⟨h1, h2⟩
  · rw [gl_init (by rw [h.len]; omega)]
    exact h.ok j (by omega)
theorem bad_of_no {W : Int} {x : ByteArray} {o : List Int} (h : RdRT x o false) : LnBad W x := fun o' h' => by cases (h.unique h').2
theorem bad_of_fit {W : Int} {x : ByteArray} {o : List Int} (h : RdRT x o true) (h2 : fitB W o = false) : LnBad W x := fun o' h' => by rw [← (h.unique h').1]; exact h2
/-- What reading a program from its text gives: width, operations, line, code. -/
def RdP (s : ByteArray) (n : Int) (os : List (List Int)) (ln code : Int) : Prop :=
  ∃ ls : List ByteArray, IsSp 10 s.data.toList (bl_ ls) ∧
    ((1502 < ls.length ∧ n = 0 ∧ os = [] ∧ ln = 0 ∧ code = 5) ∨
     (ls.length ≤ 1502 ∧ (widC (gs ls 0) = 0 ∨ ls.length = 1) ∧ n = 0 ∧ os = [] ∧ ln = 1 ∧ code = 11) ∨
     (ls.length ≤ 1502 ∧ widC (gs ls 0) ≠ 0 ∧ (∃ k os', k + 2 < ls.length ∧ LnOk (widC (gs ls 0)) ls k os' ∧ LnBad (widC (gs ls 0)) (gs ls (k + 1)) ∧ ln = (k : Int) + 2) ∧ n = 0 ∧ os = [] ∧ code = 11) ∨
     (ls.length ≤ 1502 ∧ 1 < ls.length ∧ widC (gs ls 0) ≠ 0 ∧ (∃ os', LnOk (widC (gs ls 0)) ls (ls.length - 2) os') ∧ gs ls (ls.length - 1) ≠ { data := #[] } ∧ n = 0 ∧ os = [] ∧ ln = (ls.length : Int) ∧ code = 11) ∨
     (ls.length ≤ 1502 ∧ 1 < ls.length ∧ widC (gs ls 0) ≠ 0 ∧ LnOk (widC (gs ls 0)) ls (ls.length - 2) os ∧ gs ls (ls.length - 1) = { data := #[] } ∧ n = widC (gs ls 0) ∧ ln = 0 ∧ code = 0))
theorem RdP.unique {s : ByteArray} {n n' ln ln' c c' : Int} {os os' : List (List Int)} (h : RdP s n os ln c) (h' : RdP s n' os' ln' c') : n = n' ∧ os = os' ∧ ln = ln' ∧ c = c' := by
  obtain ⟨ls, h1, h2⟩ := h
  obtain ⟨ls', k1, k2⟩ := h'
  obtain rfl : ls = ls' := bl_inj (h1.unique k1)
  rcases h2 with ⟨a1, rfl, rfl, rfl, rfl⟩ | ⟨a1, a2, rfl, rfl, rfl, rfl⟩ | ⟨a1, a2, ⟨k, q, a3, a4, a5, rfl⟩, rfl, rfl, rfl⟩ | ⟨a1, a0, a2, ⟨q, a4⟩, a5, rfl, rfl, rfl, rfl⟩ | ⟨a1, a0, a2, a4, a5, rfl, rfl, rfl⟩
  · rcases k2 with ⟨b1, rfl, rfl, rfl, rfl⟩ | ⟨b1, -⟩ | ⟨b1, -⟩ | ⟨b1, -⟩ | ⟨b1, -⟩
    · exact ⟨rfl, rfl, rfl, rfl⟩
    all_goals omega
  · rcases k2 with ⟨b1, -⟩ | ⟨b1, b2, rfl, rfl, rfl, rfl⟩ | ⟨b1, b2, ⟨k, q, b3, -⟩, -⟩ | ⟨b1, b0, b2, -⟩ | ⟨b1, b0, b2, -⟩
    · omega
    · exact ⟨rfl, rfl, rfl, rfl⟩
    all_goals (rcases a2 with a2 | a2; exact absurd a2 b2; omega)
  · rcases k2 with ⟨b1, -⟩ | ⟨b1, b2, -⟩ | ⟨b1, b2, ⟨k', q', b3, b4, b5, rfl⟩, rfl, rfl, rfl⟩ | ⟨b1, b0, b2, ⟨q', b4⟩, -⟩ | ⟨b1, b0, b2, b4, -⟩
    · omega
    · rcases b2 with b2 | b2
      · exact absurd b2 a2
      · omega
    · rcases Nat.lt_trichotomy k k' with e | e | e
      · exact (b4.bad e a5).elim
      · subst e; exact ⟨rfl, rfl, rfl, rfl⟩
      · exact (a4.bad e b5).elim
    · exact (b4.bad (by omega) a5).elim
    · exact (b4.bad (by omega) a5).elim
  · rcases k2 with ⟨b1, -⟩ | ⟨b1, b2, -⟩ | ⟨b1, b2, ⟨k', q', b3, b4, b5, rfl⟩, -⟩ | ⟨b1, b0, b2, ⟨q', b4⟩, b5, rfl, rfl, rfl, rfl⟩ | ⟨b1, b0, b2, b4, b5, -⟩
    · omega
    · rcases b2 with b2 | b2
      · exact absurd b2 a2
      · omega
    · exact (a4.bad (by omega) b5).elim
    · exact ⟨rfl, rfl, rfl, rfl⟩
    · exact absurd b5 a5
  · rcases k2 with ⟨b1, -⟩ | ⟨b1, b2, -⟩ | ⟨b1, b2, ⟨k', q', b3, b4, b5, rfl⟩, -⟩ | ⟨b1, b0, b2, ⟨q', b4⟩, b5, -⟩ | ⟨b1, b0, b2, b4, b5, rfl, rfl, rfl⟩
    · omega
    · rcases b2 with b2 | b2
      · exact absurd b2 a2
      · omega
    · exact (a4.bad (by omega) b5).elim
    · exact absurd a5 b5
    · exact ⟨rfl, a4.unique b4, rfl, rfl⟩
/-- A program's text is read back. -/
def lnW (n : Int) (os : List (List Int)) : List ByteArray := (widB ++ dec n) :: os.map opT
theorem lnW_len (n : Int) (os : List (List Int)) : (lnW n os).length = os.length + 1 := by simp [lnW]
theorem dec_all (c : Int) : ∀ b ∈ (dec c).data.toList, b.toNat ≤ 57 ∧ 45 ≤ b.toNat := by
  intro b hb
  rcases dec_form c with ⟨-, h⟩ | ⟨-, h⟩
  · rw [h] at hb
    rcases List.mem_cons.1 hb with rfl | hb
    · decide
    · have := (dig_all _ b hb)
      exact ⟨this.2, by omega⟩
  · rw [h] at hb
    have := (dig_all _ b hb)
    exact ⟨this.2, by omega⟩
theorem inter_mem {c b : UInt8} : ∀ {ws : List (List UInt8)}, b ∈ [c].intercalate ws → b = c ∨ ∃ w ∈ ws, b ∈ w
  | [], h => by simp [List.intercalate] at h
  | [a], h => by rw [inter_one] at h; exact .inr ⟨a, by simp, h⟩
  | a :: z :: r, h => by
    rw [inter_cons _ (by simp), List.mem_append, List.mem_cons] at h
    rcases h with h | h | h
    · exact .inr ⟨a, by simp, h⟩
    · exact .inl h
    · rcases inter_mem h with h | ⟨w, h1, h2⟩
      · exact .inl h
      · exact .inr ⟨w, List.mem_cons_of_mem _ h1, h2⟩
theorem opW_ge (k d fb fa tb ta c r : Int) : ∀ x ∈ opW k d fb fa tb ta c r, ∀ b ∈ x.data.toList, 32 ≤ b.toNat := by
  intro y hy
  have hdc : ∀ e, ∀ b ∈ (dec e).data.toList, 32 ≤ b.toNat := fun e b hb => by have := (dec_all e b hb).2; omega
  have hkw : ∀ n, ∀ b ∈ (kw n).data.toList, 32 ≤ b.toNat := fun n => by
    unfold kw
    by_cases h : n < 10
    · rcases (show n = 0 ∨ n = 1 ∨ n = 2 ∨ n = 3 ∨ n = 4 ∨ n = 5 ∨ n = 6 ∨ n = 7 ∨ n = 8 ∨ n = 9 by omega) with rfl | rfl | rfl | rfl | rfl | rfl | rfl | rfl | rfl | rfl <;> decide
    · rw [List.getD, List.getElem?_eq_none (by simp [kwL]; omega)]; decide
  have hnd : ∀ b a, ∀ u ∈ (ndS b a).data.toList, 32 ≤ u.toNat := fun b a u q => by
    rw [nd_data] at q
    rcases List.mem_cons.1 q with q | q
    · split at q <;> subst q <;> decide
    · rw [← dec_data] at q; exact hdc a u q
  have hdr : ∀ e, ∀ u ∈ (dirS e).data.toList, 32 ≤ u.toNat := fun e => by unfold dirS; split <;> decide
  unfold opW at hy
  simp only [List.mem_cons, List.mem_append] at hy
  rcases hy with rfl | (((hy | hy) | hy) | hy) | hy
  · exact hkw _
  all_goals
    split at hy
    · first | (simp only [List.mem_singleton] at hy; subst hy; first | exact hdr _ | exact hnd _ _ | exact hdc _) | cases hy
    · first | (simp only [List.mem_singleton] at hy; subst hy; first | exact hdr _ | exact hnd _ _ | exact hdc _) | cases hy
theorem opT_free (o : List Int) : (10 : UInt8) ∉ (opT o).data.toList := by
  intro h
  have h2 : (10 : UInt8) ∈ [32].intercalate (bl_ (opW (gi o 0) (gi o 1) (gi o 2) (gi o 3) (gi o 4) (gi o 5) (gi o 6) (gi o 7))) := h
  rcases inter_mem h2 with h3 | ⟨w, h3, h4⟩
  · revert h3; decide
  · obtain ⟨x, hx, rfl⟩ := List.mem_map.1 h3
    have := opW_ge _ _ _ _ _ _ _ _ x hx _ h4
    revert this; decide
def emB : ByteArray := { data := #[] }
theorem app_list (a b : ByteArray) : (a ++ b).data.toList = a.data.toList ++ b.data.toList := by rw [ByteArray.data_append, Array.toList_append]
theorem prU_join (n : Int) (os : List (List Int)) : ∀ k, k ≤ os.length → [10].intercalate (bl_ ((lnW n os).take (k + 1)) ++ [[]]) = (prU n os k).data.toList
  | 0, _ => by
    show [10].intercalate [(widB ++ dec n).data.toList, []] = (hdS n).data.toList
    rw [inter_cons _ (by simp), inter_one]
    unfold hdS
    rw [app_list]
    rfl
  | k + 1, h => by
    have ih := prU_join n os k (by omega)
    have e : (lnW n os).take (k + 1 + 1) = (lnW n os).take (k + 1) ++ [opT (gl os k)] := by
      have h1 : k + 1 < (lnW n os).length := by rw [lnW_len]; omega
      rw [List.take_succ_eq_append_getElem h1]
      congr 2
      simp only [lnW, List.getElem_cons_succ, List.getElem_map]
      rw [gl_eq (by omega)]
    have hne : bl_ ((lnW n os).take (k + 1)) ≠ [] := by simp [bl_, lnW]
    rw [e, bl_snoc, inter_snoc _ _ (by simp)]
    have e2 := inter_last (c := 10) (bl_ ((lnW n os).take (k + 1))) [] (opT (gl os k)).data.toList
    rw [List.nil_append] at e2
    rw [e2, ih]
    show _ = (prU n os k ++ (opT (gl os k) ++ nlB)).data.toList
    rw [app_list, app_list]
    simp [nlB]
theorem prT_sp (n : Int) (os : List (List Int)) : IsSp 10 (prT n os).data.toList (bl_ (lnW n os ++ [emB])) := by
  refine ⟨by simp [bl_], fun x hx => ?_, ?_⟩
  · rw [bl_snoc, List.mem_append] at hx
    rcases hx with hx | hx
    · obtain ⟨y, hy, rfl⟩ := List.mem_map.1 hx
      unfold lnW at hy
      rcases List.mem_cons.1 hy with rfl | hy
      · rw [app_list, List.mem_append]
        rintro (q | q)
        · revert q; decide
        · have := (dec_all n _ q).2
          revert this; decide
      · obtain ⟨o, -, rfl⟩ := List.mem_map.1 hy
        exact opT_free o
    · simp only [List.mem_singleton] at hx
      subst hx
      simp [emB]
  · have := prU_join n os os.length (Nat.le_refl _)
    rw [List.take_of_length_le (by rw [lnW_len]; exact Nat.le_refl _)] at this
    rw [bl_snoc]
    exact this
theorem rdP_prT {n : Int} {os : List (List Int)} (h : okOps n os = true) (h8 : ∀ o ∈ os, o.length = 8) : RdP (prT n os) n os 0 0 := by
  simp only [okOps, Bool.and_eq_true, decide_eq_true_eq, inR_iff] at h
  obtain ⟨⟨⟨n1, n2⟩, hl⟩, ha⟩ := h
  have hnum : numC (dec n) = (n, true) := numC_yes rfl (by constructor <;> omega)
  have g0 : gs (lnW n os ++ [emB]) 0 = widB ++ dec n := rfl
  have hw : widC (widB ++ dec n) = n := by
    have := widC_yes (x := widB ++ dec n) (t := dec n) rfl (by rw [hnum]) (by rw [hnum]; exact ⟨n1, n2⟩)
    rw [this, hnum]
  have hlen : (lnW n os ++ [emB]).length = os.length + 2 := by rw [List.length_append, lnW_len]; rfl
  refine ⟨lnW n os ++ [emB], prT_sp n os, .inr (.inr (.inr (.inr ⟨by omega, by omega, by rw [g0, hw]; omega, ?_, ?_, by rw [g0, hw], rfl, rfl⟩)))⟩
  · rw [g0, hw, hlen, Nat.add_sub_cancel]
    refine ⟨rfl, fun j hj => ?_⟩
    have e : gs (lnW n os ++ [emB]) (j + 1) = opT (gl os j) := by
      rw [gs_eq (by omega), List.getElem_append_left (by rw [lnW_len]; omega)]
      simp only [lnW, List.getElem_cons_succ, List.getElem_map]
      rw [gl_eq hj]
    have h1 := (all_iff.1 ha) j hj
    simp only [Bool.and_eq_true] at h1
    rw [e]
    exact ⟨.inl ⟨rfl, h8 _ (gl_mem hj), h1.1, rfl⟩, h1.2⟩
  · rw [hlen, gs_eq (by omega), List.getElem_append_right (by rw [lnW_len]; omega)]
    simp [emB]
end Go.Proofs.YtgmppfhokfifgaaGreatDoor
