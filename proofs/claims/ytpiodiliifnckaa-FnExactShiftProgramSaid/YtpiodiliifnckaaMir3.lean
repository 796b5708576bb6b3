/-
  Contracts: MirrorProgram and ShiftProgram of the program.
-/
import Derived.Test.YtpiodiliifnckaaMap2
namespace Go.Proofs.Ytpiodiliifnckaa
set_option maxRecDepth 10000
open Go.RowKit

theorem mir_two {n : Int} {o : List Int} (h : o.length = 8) : ((mapO (mirN n) o).set 1 (-gi o 1)).set 7 (-gi o 7) = mirO n o := by
  match o, h with
  | [b0, b1, b2, b3, b4, b5, b6, b7], _ => rfl
theorem mpA_len (n : Int) (os : List (List Int)) : (mpA n os).1.length ≤ 1500 := by
  unfold mpA
  split
  · rename_i h
    rw [List.length_map]; exact (okOps_parts h).2.1
  · simp
theorem spA_len (n : Int) (os : List (List Int)) (m : Int) : (spA n os m).1.length ≤ 1500 := by
  unfold spA spB
  split
  · split
    · rename_i h _
      rw [List.length_map]; exact (okOps_parts h).2.1
    · simp
  · simp
set_option maxHeartbeats 3200000 in
theorem impl_MirrorProgram_any (n : Int) (v : Value) (os : List (List Int)) (B : Nat) (w : World) (h : SlR 8 w B v os) (hB : B ≤ w.heap.size) :
    Calls Try.prog 23 #[.int .i64 n, v] w fun e w' => ∃ r, e = .returned (.tuple #[r, .int .i64 (mpA n os).2]) ∧ OwT 8 52 w' w.heap.size w'.heap.size r (mpA n os).1 ∧ Below w.heap.size w w' := by
  have hA := al1 w (.cells #[.int .i64 n] 2)
  have h1 := h.below hA hB
  have hB1 := Nat.le_trans hB hA.size
  have hc0 : (w.alloc (.cells #[.int .i64 n] 2)).cell? ⟨w.heap.size, 0, none⟩ = some (.int .i64 n) := by simp
  cases hok : okOps n os
  · have HE := Lib.hid (show mpA n os = ([], 1) by simp [mpA, hok])
    go_enter Try.func23, Try.ntmps23
    go_wp2_with fail
    refine (is_below hok (validFor_any n _ os B _ h1 hB1)).mono ?_
    rintro e w1 ⟨rfl, hb⟩
    go_wp2_with fail
    go_ret2
    exact ⟨_, by rw [HE.out]; rfl, by rw [HE.out]; exact OwT.nil _ _ _ _ _, hA.trans (hb.mono hA.size)⟩
  · have HE := Lib.hid (show mpA n os = (os.map (mirO n), 0) by simp [mpA, hok])
    have HK := Lib.hid hok
    have H8 := Lib.hid (show ∀ o ∈ os, o.length = 8 by obtain ⟨_, _, _, _, _, ⟨h8, _⟩, _⟩ := id h; exact h8)
    obtain ⟨hn, h15, hall⟩ := okOps_parts hok
    have HALL := Lib.hid hall
    go_enter Try.func23, Try.ntmps23
    go_wp2_with fail
    refine (is_below hok (validFor_any n _ os B _ h1 hB1)).mono ?_
    rintro e w1 ⟨rfl, hb⟩
    have hb1 := hA.trans (hb.mono hA.size)
    have hc1 : w1.cell? ⟨w.heap.size, 0, none⟩ = some (.int .i64 n) := by rw [hb.cell (by simp)]; exact hc0
    have hz1 : w.heap.size < w1.heap.size := block_lt_of_cell hc1
    go_wp2_with fail
    refine (mappedM_any n n _ os B ⟨w.heap.size, 0, none⟩ _ (h.below hb1 hB) (Nat.le_trans hB hb1.size) hc1 hn HK.out).mono ?_
    rintro e w2 ⟨r, rfl, hO, hb2⟩
    have hb3 := hb1.trans (hb2.mono hb1.size)
    obtain ⟨A2, c2, rfl, -⟩ := id (hO.sl (Nat.le_refl _))
    have hlm : (os.map (mapO (mirN n))).length = os.length := by simp
    rw [hlm] at hO
    go_wp2_with fail
    go_loopw [17] (fun i wr => ∃ k : Nat, k ≤ os.length ∧ i = .int .i64 k ∧ OwT 8 52 wr w1.heap.size w2.heap.size (.slice A2 os.length c2) ((os.take k).map (mirO n) ++ (os.drop k).map (mapO (mirN n))) ∧ Below w.heap.size w wr ∧ w2.heap.size ≤ wr.heap.size) (fun i _ => os.length - (intOf i).toNat)
    case atStart => exact ⟨0, Nat.zero_le _, by simp, by simpa using hO, hb3, Nat.le_refl _⟩
    case round =>
      obtain ⟨k, hk, rfl, hO, hb4, hz4⟩ := hrel
      by_cases hlt : k < os.length
      · have hml : ((os.take k).map (mirO n) ++ (os.drop k).map (mapO (mirN n))).length = os.length := by simp; omega
        have hkm : k < ((os.take k).map (mirO n) ++ (os.drop k).map (mapO (mirN n))).length := by rw [hml]; exact hlt
        have hgl : gl ((os.take k).map (mirO n) ++ (os.drop k).map (mapO (mirN n))) k = mapO (mirN n) (gl os k) := by
          rw [gl_eq hkm, List.getElem_append_right (by simp; omega), gl_eq hlt]
          simp [Nat.min_eq_left (Nat.le_of_lt hlt)]
        have hst : ((os.take k).map (mirO n) ++ (os.drop k).map (mapO (mirN n))).set k (mirO n (gl os k)) = (os.take (k + 1)).map (mirO n) ++ (os.drop (k + 1)).map (mapO (mirN n)) := by
          have hl : ((os.take k).map (mirO n)).length = k := by simp; omega
          rw [drop_gl hlt, List.map_cons, List.set_append_right _ _ (by omega), hl, Nat.sub_self, List.set_cons_zero, take_gl hlt, List.map_append, List.append_assoc]
          rfl
        obtain ⟨g, cap, hv, hg1, hg2⟩ := hO.shape (by rw [hml]; omega)
        rw [hml] at hv
        injection hv with hv _ hv2
        subst hv hv2
        obtain ⟨-, ⟨x1, x1'⟩, -, -, -, -, -, ⟨x7, x7'⟩⟩ := op_bds (HALL.out k hlt).1
        obtain ⟨t1, u1, -⟩ := hO.set1 hml k 1 hkm (by omega) 0
        obtain ⟨t7, u7, -⟩ := hO.set1 hml k 7 hkm (by omega) 0
        rw [hgl, show gi (mapO (mirN n) (gl os k)) 1 = gi (gl os k) 1 from rfl] at t1
        rw [hgl, show gi (mapO (mirN n) (gl os k)) 7 = gi (gl os k) 7 from rfl] at t7
        obtain ⟨o2, d2⟩ := OwT.set2 hO hml k 1 7 hkm (by omega) (by omega) (-gi (gl os k) 1) (-gi (gl os k) 7)
        rw [hgl, mir_two (H8.out _ (gl_mem hlt)), hst] at o2
        have HO2 := Lib.hid o2
        have HD2 := Lib.hid d2
        clear o2 d2 hgl hst
        go_wp2_with fail
        go_roundw
        case rel => exact ⟨k + 1, by omega, by go_num, HO2.out, hb4.trans (HD2.out.below (Nat.le_of_lt hz1) hb4.size), Nat.le_trans hz4 HD2.out.size⟩
        case measure => simp [intOf]; omega
      · obtain rfl : k = os.length := by omega
        rw [List.take_length, List.drop_length, List.map_nil, List.append_nil] at hO
        go_wp2_with fail
        go_ret2
        exact ⟨_, by rw [HE.out]; rfl, by rw [HE.out]; exact hO.mono (Nat.le_of_lt hz1) hz4, hb4⟩
set_option maxHeartbeats 3200000 in
theorem impl_ShiftProgram_any (n : Int) (v : Value) (os : List (List Int)) (m : Int) (B : Nat) (w : World) (h : SlR 8 w B v os) (hB : B ≤ w.heap.size) :
    Calls Try.prog 26 #[.int .i64 n, v, .int .i64 m] w fun e w' => ∃ r, e = .returned (.tuple #[r, .int .i64 (spA n os m).2]) ∧ OwT 8 52 w' w.heap.size w'.heap.size r (spA n os m).1 ∧ Below w.heap.size w w' := by
  cases hok : okOps n os
  · have HE := Lib.hid (show spA n os m = ([], 1) by simp [spA, hok])
    go_enter Try.func26, Try.ntmps26
    go_wp2_with fail
    refine (is_below hok (validFor_any n _ os B _ h hB)).mono ?_
    rintro e w1 ⟨rfl, hb⟩
    go_wp2_with fail
    go_ret2
    exact ⟨_, by rw [HE.out]; rfl, by rw [HE.out]; exact OwT.nil _ _ _ _ _, hb⟩
  · have HE := Lib.hid (show spA n os m = spB n (os.map (mapO (movN (clampN m)))) by simp [spA, hok])
    have HK := Lib.hid hok
    go_enter Try.func26, Try.ntmps26
    go_wp2_with fail
    refine (is_below hok (validFor_any n _ os B _ h hB)).mono ?_
    rintro e w1 ⟨rfl, hb⟩
    have hf : -24 ≤ clampN m ∧ clampN m ≤ 24 := by unfold clampN; omega
    have hcl : (if (-24 : Int) < (if 24 < m then 24 else m) then (if 24 < m then 24 else m) else -24) = clampN m := by unfold clampN; (repeat split) <;> omega
    have hc2 : (w1.alloc (.cells #[.int .i64 (clampN m)] 2)).cell? ⟨w1.heap.size, 0, none⟩ = some (.int .i64 (clampN m)) := by simp
    have ha := al1 w1 (.cells #[.int .i64 (clampN m)] 2)
    have hb4 := hb.trans (ha.mono hb.size)
    have hsl := h.below hb4 hB
    have hBB := Nat.le_trans hB hb4.size
    go_wp2_with fail
    all_goals
      refine (mappedS_any (clampN m) n _ os B ⟨w1.heap.size, 0, none⟩ _ hsl hBB hc2 hf HK.out).mono ?_
      rintro e w2 ⟨r, rfl, hO, hb2⟩
      have hb5 := hb4.trans (hb2.mono hb4.size)
      go_wp2_with fail
      refine (validFor_any n _ _ _ _ (hO.sl (Nat.le_refl _)) (Nat.le_refl _)).mono ?_
      rintro e w3 ⟨rfl, hb3⟩
      generalize os.map (mapO (movN (clampN m))) = os2 at *
      cases hok2 : okOps n os2
      · have HF := Lib.hid (show spB n os2 = ([], 2) by simp [spB, hok2])
        go_wp2_with fail
        go_ret2
        exact ⟨_, by rw [HE.out, HF.out]; rfl, by rw [HE.out, HF.out]; exact OwT.nil _ _ _ _ _, hb5.trans (hb3.mono hb5.size)⟩
      · have HF := Lib.hid (show spB n os2 = (os2, 0) by simp [spB, hok2])
        go_wp2_with fail
        go_ret2
        exact ⟨_, by rw [HE.out, HF.out]; rfl, by rw [HE.out, HF.out]; exact (hO.below hb3 (Nat.le_refl _)).mono hb4.size hb3.size, hb5.trans (hb3.mono hb5.size)⟩
end Go.Proofs.Ytpiodiliifnckaa
