/-
  Contracts: the reference's l08Kind; what a read operation is (plain).
-/
import Derived.Test.YtgmppfhokfifgaaGreatDoorTxy
namespace Go.Proofs.YtgmppfhokfifgaaGreatDoor
set_option maxRecDepth 10000
open Go.RowKit Go.Sort

set_option maxHeartbeats 3200000 in
theorem l08Kind_any (x : ByteArray) (w : World) : Calls Tryz.prog 39 #[.string x] w fun e w' => ∃ n : Nat, e = .returned (.int .i64 n) ∧ KindR x n ∧ n ≤ 9 ∧ Below w.heap.size w w' := by
  go_enter Tryz.func39, Tryz.ntmps39
  go_wp2_with fail
  refine (l08Words_any _).mono ?_
  rintro e w1 ⟨g, rfl, hg, hq⟩
  have HB := Lib.hid hq
  have HG := Lib.hid hg
  clear hg hq
  go_wp2_with fail
  go_loopw [4] (fun i wr => ∃ k : Nat, 1 ≤ k ∧ k ≤ 10 ∧ i = .int .i64 k ∧ wr = w1 ∧ ∀ j, 1 ≤ j → j < k → kw j ≠ x) (fun i _ => 10 - (intOf i).toNat)
  case atStart => exact ⟨1, Nat.le_refl _, by omega, rfl, rfl, fun j h1 h2 => by omega⟩
  case round =>
    obtain ⟨k, hk1, hk, rfl, rfl, hj⟩ := hrel
    have HJ := Lib.hid hj
    clear hj
    by_cases hlt : k < 10
    · have hltI : (k : Int) < 10 := by omega
      have q0 := HG.out k hlt
      by_cases hx : kw k = x
      · have HX := Lib.hid hx
        have hcmp := str_yes hx
        clear hx
        go_wp2_with fail
        go_ret
        exact ⟨k, rfl, .inl ⟨hk1, by omega, HX.out⟩, by omega, HB.out⟩
      · have HX := Lib.hid hx
        have hcmp := str_no hx
        clear hx
        go_wp2_with fail
        go_roundw
        case rel =>
          refine ⟨k + 1, by omega, by omega, by go_num, by trivial, fun j h1 h2 => ?_⟩
          by_cases e : j = k
          · subst e; exact HX.out
          · exact HJ.out j h1 (by omega)
        case measure => simp [intOf]; omega
    · obtain rfl : k = 10 := by omega
      go_wp2_with fail
      go_ret
      exact ⟨0, by simp, .inr ⟨rfl, fun j h1 h2 => HJ.out j h1 (by omega)⟩, by omega, HB.out⟩
/-- What reading an operation from s gives. -/
def opz : List Int := [0, 0, 0, 0, 0, 0, 0, 0]
def RdRT (s : ByteArray) (o : List Int) (b : Bool) : Prop :=
  (b = true ∧ o.length = 8 ∧ opB o = true ∧ opT o = s) ∨ (b = false ∧ o = opz ∧ ∀ o' : List Int, o'.length = 8 → opB o' = true → opT o' ≠ s)
theorem oct {o : List Int} (h : o.length = 8) : o = [gi o 0, gi o 1, gi o 2, gi o 3, gi o 4, gi o 5, gi o 6, gi o 7] := by
  match o, h with
  | [a, b, c, d, e, f, g, i], _ => rfl
theorem kindR_of {o : List Int} (h : opB o = true) : ∃ n : Nat, (n : Int) = gi o 0 ∧ 1 ≤ n ∧ n ≤ 9 := by
  obtain ⟨n, e, h1, h2, -⟩ := op_cases h
  exact ⟨n, e.symm, h1, h2⟩
/-- If s is the text of a valid operation, both read this operation. -/
theorem parse_valid {s : ByteArray} {ws : List ByteArray} {o : List Int} (hl : o.length = 8) (hv : opB o = true) (hs : opT o = s) (h : IsSp 32 s.data.toList (bl_ ws)) :
    ws = opW (gi o 0) (gi o 1) (gi o 2) (gi o 3) (gi o 4) (gi o 5) (gi o 6) (gi o 7) ∧ ∃ n : Nat, KindR (gs ws 0) n ∧ (n : Int) = gi o 0 ∧ 1 ≤ n ∧ n ≤ 9 ∧ refO n (ws.drop 1) = o ∧ impO n (ws.drop 1) = o := by
  have hw := pieces hs h
  refine ⟨hw, ?_⟩
  obtain ⟨n, e, h1, h2⟩ := kindR_of hv
  have hr := read_op hv e
  rw [← hw] at hr
  refine ⟨n, .inl ⟨h1, h2, ?_⟩, e, h1, h2, hr.1.trans (oct hl).symm, hr.2.trans (oct hl).symm⟩
  rw [hw, ← e]
  unfold opW
  rw [gs0]
  congr 1
theorem parse_kind {s : ByteArray} {ws : List ByteArray} {n : Nat} (hk : KindR (gs ws 0) n) (h : IsSp 32 s.data.toList (bl_ ws)) {o : List Int} (hl : o.length = 8) (hv : opB o = true) (hs : opT o = s) :
    refO n (ws.drop 1) = o ∧ impO n (ws.drop 1) = o := by
  obtain ⟨-, m, hm, -, -, -, h1, h2⟩ := parse_valid hl hv hs h
  rw [hk.unique hm]
  exact ⟨h1, h2⟩
theorem opT_inj {o o' : List Int} (hl : o.length = 8) (hv : opB o = true) (hl' : o'.length = 8) (hv' : opB o' = true) (h : opT o = opT o') : o = o' := by
  obtain ⟨-, n, hk, -, -, -, h1, -⟩ := parse_valid (s := opT o) hl hv rfl (opW_sp _ _ _ _ _ _ _ _)
  have := parse_kind hk (opW_sp _ _ _ _ _ _ _ _) hl' hv' h.symm
  exact h1.symm.trans this.1
theorem RdRT.unique {s : ByteArray} {o o' : List Int} {b b' : Bool} (h : RdRT s o b) (h' : RdRT s o' b') : o = o' ∧ b = b' := by
  rcases h with ⟨rfl, h1, h2, h3⟩ | ⟨rfl, rfl, h1⟩ <;> rcases h' with ⟨rfl, k1, k2, k3⟩ | ⟨rfl, rfl, k1⟩
  · exact ⟨opT_inj h1 h2 k1 k2 (h3.trans k3.symm), rfl⟩
  · exact absurd h3 (k1 _ h1 h2)
  · exact absurd k3 (h1 _ k1 k2)
  · exact ⟨rfl, rfl⟩
theorem opR_eq (o : List Int) : opR (gi o 0) (gi o 1) (gi o 2) (gi o 3) (gi o 4) (gi o 5) (gi o 6) (gi o 7) = if opB o = true then opT o else { data := #[] } := rfl
/-- The reference's answer. -/
theorem rd_ref {s : ByteArray} {ws : List ByteArray} {n : Nat} (hk : KindR (gs ws 0) n) (h : IsSp 32 s.data.toList (bl_ ws)) {o : List Int} (ho : refO n (ws.drop 1) = o) (hl : o.length = 8) :
    (s ≠ { data := #[] } ∧ opR (gi o 0) (gi o 1) (gi o 2) (gi o 3) (gi o 4) (gi o 5) (gi o 6) (gi o 7) = s → RdRT s o true) ∧
    (s = { data := #[] } ∨ opR (gi o 0) (gi o 1) (gi o 2) (gi o 3) (gi o 4) (gi o 5) (gi o 6) (gi o 7) ≠ s → RdRT s opz false) := by
  rw [opR_eq]
  refine ⟨fun ⟨h1, h2⟩ => ?_, fun h1 => .inr ⟨rfl, rfl, fun o' hl' hv' hs' => ?_⟩⟩
  · by_cases hv : opB o = true
    · rw [if_pos hv] at h2; exact .inl ⟨rfl, hl, hv, h2⟩
    · rw [if_neg hv] at h2; exact absurd h2.symm h1
  · have := (parse_kind hk h hl' hv' hs').1
    have e : o = o' := ho.symm.trans this
    subst e
    rcases h1 with h1 | h1
    · obtain ⟨hw, -⟩ := parse_valid hl' hv' hs' h
      obtain ⟨m, e1, e2, e3⟩ := kindR_of hv'
      have h3 := h.join
      rw [h1, hw] at h3
      have h4 : (0 : Nat) < (kw m).size := by
        rcases (show m = 1 ∨ m = 2 ∨ m = 3 ∨ m = 4 ∨ m = 5 ∨ m = 6 ∨ m = 7 ∨ m = 8 ∨ m = 9 by omega) with rfl | rfl | rfl | rfl | rfl | rfl | rfl | rfl | rfl <;> decide
      have h5 : 0 < (opT o).size := by
        unfold opT opTx opW
        rw [← e1]
        have : ∀ l : List ByteArray, (kw m).size ≤ (joinB (kw m :: l)).size := fun l => by
          unfold joinB
          show _ ≤ (Lib.join _ _).toArray.size
          cases l with
          | nil => simp [Lib.join, List.intercalate]
          | cons y l =>
            simp only [List.map_cons, Lib.join, List.size_toArray]
            rw [inter_cons _ (by simp)]
            simp only [List.length_append, tl_len_]
            omega
        have h6 := this (((if gi o 1 = 0 then [] else [dirS (gi o 1)]) ++ (if gi o 2 = 0 then [] else [ndS (gi o 2) (gi o 3)]) ++ (if gi o 4 = 0 then [] else [ndS (gi o 4) (gi o 5)]) ++ (if gi o 6 = 0 then [] else [dec (gi o 6)]) ++ (if (m : Int) = 7 then [dec (gi o 7)] else [])))
        have h7 : kw (m : Int).toNat = kw m := by simp
        exact Nat.lt_of_lt_of_le h4 h6
      rw [hs', h1] at h5
      revert h5; decide
    · rw [if_pos hv'] at h1
      exact h1 hs'
end Go.Proofs.YtgmppfhokfifgaaGreatDoor
