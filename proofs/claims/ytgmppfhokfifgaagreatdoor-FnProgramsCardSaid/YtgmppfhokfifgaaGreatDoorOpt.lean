/-
  Contracts: the program's opText and OpText. Printed by gen_opt.py.
-/
import Derived.Test.YtgmppfhokfifgaaGreatDoorGta
import Derived.Test.YtgmppfhokfifgaaGreatDoorOps
import Derived.Deep.RegionWith
namespace Go.Proofs.YtgmppfhokfifgaaGreatDoor
set_option maxRecDepth 10000
open Go.RowKit Go.Sort

theorem box8T {w : World} {g : Nat} {a b c d e f i j : Value} {t : TypeId} (hx : w.heap[g]? = some (.cells #[a, b, c, d, e, f, i, j] t)) :
    (w.cell? ⟨g, 0, none⟩ = some a ∧ w.cell? ⟨g, 1, none⟩ = some b ∧ w.cell? ⟨g, 2, none⟩ = some c ∧ w.cell? ⟨g, 3, none⟩ = some d ∧ w.cell? ⟨g, 4, none⟩ = some e ∧ w.cell? ⟨g, 5, none⟩ = some f ∧ w.cell? ⟨g, 6, none⟩ = some i ∧ w.cell? ⟨g, 7, none⟩ = some j) ∧ g < w.heap.size :=
  ⟨⟨cell_of_row w g 0 _ t (0, 0) hx, cell_of_row w g 1 _ t (0, 0) hx, cell_of_row w g 2 _ t (0, 0) hx, cell_of_row w g 3 _ t (0, 0) hx, cell_of_row w g 4 _ t (0, 0) hx, cell_of_row w g 5 _ t (0, 0) hx, cell_of_row w g 6 _ t (0, 0) hx, cell_of_row w g 7 _ t (0, 0) hx⟩, heap_lt hx⟩
theorem str_info : (Tryz.prog.info? 9).map (fun i => (i.zero, i.size, i.bytes)) = some (some (.string ByteArray.empty), 1, 16) := by kernel_rfl
theorem join_len (ws : List ByteArray) (h : ∀ x ∈ ws, x.size ≤ 30) : (Lib.join (ws.map (·.data.toList)) [32]).length ≤ 31 * ws.length := by
  induction ws with
  | nil => simp [Lib.join, List.intercalate]
  | cons a r ih =>
    have h1 := h a (by simp)
    have h2 := ih fun x hx => h x (by simp [hx])
    have h3 : a.data.toList.length = a.size := by rw [Array.length_toList]; rfl
    cases r with
    | nil => simp only [Lib.join, List.intercalate, List.map_cons, List.map_nil, List.intersperse_singleton, List.flatten_cons, List.flatten_nil, List.append_nil, List.length_cons, List.length_nil]; omega
    | cons z r =>
      simp only [Lib.join, List.intercalate, List.map_cons, List.intersperse_cons_cons, List.flatten_cons, List.length_append, List.length_cons, List.length_nil] at h2 ⊢
      omega
set_option maxHeartbeats 1600000 in
/-- The shapes of the valid operations. -/
theorem op_cases {k d fb fa tb ta c r : Int} (h : vOp k d fb fa tb ta c r = true) : ∃ n : Nat, k = n ∧ 1 ≤ n ∧ n ≤ 9 ∧ (I64 fa ∧ I64 ta ∧ I64 c ∧ I64 r) ∧ (-3 ≤ r ∧ r ≤ 3) ∧
    (((n = 1 ∨ n = 2 ∨ n = 3) ∧ d ≠ 0 ∧ fb ≠ 0 ∧ tb = 0 ∧ c ≠ 0) ∨ (n = 4 ∧ d = 0 ∧ fb ≠ 0 ∧ tb ≠ 0 ∧ c = 0) ∨ (n = 5 ∧ d ≠ 0 ∧ fb ≠ 0 ∧ tb ≠ 0 ∧ c ≠ 0) ∨ (n = 6 ∧ d = 0 ∧ fb ≠ 0 ∧ tb = 0 ∧ c = 0) ∨
      (n = 7 ∧ d = 0 ∧ fb = 0 ∧ tb = 0 ∧ c = 0) ∨ (n = 8 ∧ d ≠ 0 ∧ fb = 0 ∧ tb = 0 ∧ c ≠ 0) ∨ (n = 9 ∧ d = 0 ∧ fb = 0 ∧ tb = 0 ∧ c ≠ 0)) := by
  unfold I64
  unfold vOp at h
  split at h
  · simp only [Bool.and_eq_true, dirB_iff, ndlB_iff, inR_iff, beq_iff_eq] at h
    exact ⟨k.toNat, by omega, by omega, by omega, ⟨⟨by omega, by omega⟩, ⟨by omega, by omega⟩, ⟨by omega, by omega⟩, ⟨by omega, by omega⟩⟩, ⟨by omega, by omega⟩, .inl ⟨by omega, by omega, by omega, by omega, by omega⟩⟩
  · split at h
    · simp only [pairB, Bool.and_eq_true, ndlB_iff, beq_iff_eq] at h
      exact ⟨k.toNat, by omega, by omega, by omega, ⟨⟨by omega, by omega⟩, ⟨by omega, by omega⟩, ⟨by omega, by omega⟩, ⟨by omega, by omega⟩⟩, ⟨by omega, by omega⟩, .inr (.inl ⟨by omega, by omega, by omega, by omega, by omega⟩)⟩
    · split at h
      · simp only [pairB, Bool.and_eq_true, dirB_iff, ndlB_iff, inR_iff, beq_iff_eq] at h
        exact ⟨k.toNat, by omega, by omega, by omega, ⟨⟨by omega, by omega⟩, ⟨by omega, by omega⟩, ⟨by omega, by omega⟩, ⟨by omega, by omega⟩⟩, ⟨by omega, by omega⟩, .inr (.inr (.inl ⟨by omega, by omega, by omega, by omega, by omega⟩))⟩
      · split at h
        · simp only [Bool.and_eq_true, ndlB_iff, beq_iff_eq] at h
          exact ⟨k.toNat, by omega, by omega, by omega, ⟨⟨by omega, by omega⟩, ⟨by omega, by omega⟩, ⟨by omega, by omega⟩, ⟨by omega, by omega⟩⟩, ⟨by omega, by omega⟩, .inr (.inr (.inr (.inl ⟨by omega, by omega, by omega, by omega, by omega⟩)))⟩
        · split at h
          · simp only [Bool.and_eq_true, inR_iff, beq_iff_eq] at h
            exact ⟨k.toNat, by omega, by omega, by omega, ⟨⟨by omega, by omega⟩, ⟨by omega, by omega⟩, ⟨by omega, by omega⟩, ⟨by omega, by omega⟩⟩, ⟨by omega, by omega⟩, .inr (.inr (.inr (.inr (.inl ⟨by omega, by omega, by omega, by omega, by omega⟩))))⟩
          · split at h
            · simp only [Bool.and_eq_true, dirB_iff, inR_iff, beq_iff_eq] at h
              exact ⟨k.toNat, by omega, by omega, by omega, ⟨⟨by omega, by omega⟩, ⟨by omega, by omega⟩, ⟨by omega, by omega⟩, ⟨by omega, by omega⟩⟩, ⟨by omega, by omega⟩, .inr (.inr (.inr (.inr (.inr (.inl ⟨by omega, by omega, by omega, by omega, by omega⟩)))))⟩
            · split at h
              · simp only [Bool.and_eq_true, inR_iff, beq_iff_eq] at h
                exact ⟨k.toNat, by omega, by omega, by omega, ⟨⟨by omega, by omega⟩, ⟨by omega, by omega⟩, ⟨by omega, by omega⟩, ⟨by omega, by omega⟩⟩, ⟨by omega, by omega⟩, .inr (.inr (.inr (.inr (.inr (.inr (⟨by omega, by omega, by omega, by omega, by omega⟩))))))⟩
              · cases h
set_option maxHeartbeats 6400000 in
theorem opText_any {k d fb fa tb ta c r : Int} (h : vOp k d fb fa tb ta c r = true) {w : World} (ht : Tab w) :
    Calls Tryz.prog 31 #[.agg #[.int .i64 k, .int .i64 d, .int .i64 fb, .int .i64 fa, .int .i64 tb, .int .i64 ta, .int .i64 c, .int .i64 r]] w fun e w' => e = .returned (.string (opTx k d fb fa tb ta c r)) ∧ Below w.heap.size w w' := by
  obtain ⟨n, rfl, n1, n9, ⟨ia, ja, ca, ra⟩, -, hs⟩ := op_cases h
  have hn : n < 10 := by omega
  have hnI : (0 : Int) ≤ (n : Int) ∧ (n : Int) < 10 := by omega
  obtain ⟨hn0, hn1⟩ := hnI
  clear h
  obtain ⟨w0, hw0⟩ : ∃ x, x = w.alloc (.cells #[.int .i64 (n : Int), .int .i64 d, .int .i64 fb, .int .i64 fa, .int .i64 tb, .int .i64 ta, .int .i64 c, .int .i64 r] 38) := ⟨_, rfl⟩
  have HW0 := Lib.hid hw0
  have HB0 : Hid (Below w.heap.size w w0) := Lib.hid (by rw [hw0]; exact al1 _ _)
  have HX0 : Hid (w0.heap[w.heap.size]? = some (.cells #[.int .i64 (n : Int), .int .i64 d, .int .i64 fb, .int .i64 fa, .int .i64 tb, .int .i64 ta, .int .i64 c, .int .i64 r] 38)) := Lib.hid (by rw [hw0]; exact alloc_at_ _ _)
  have HT0 : Hid (Tab w0) := Lib.hid (ht.below HB0.out)
  have hz0 : w0.heap.size = w.heap.size + 1 := by rw [hw0]; simp
  have HK : Hid (∀ w', Below w0.heap.size w0 w' → w'.cell? ⟨w.heap.size, 0, none⟩ = some (.int .i64 (n : Int)) ∧ Below w0.heap.size w0 w') := Lib.hid fun w' hb => ⟨(box8T (keep_fwd hb HX0.out)).1.1, hb⟩
  clear ht hw0
  rcases hs with ⟨hn3, d0, f0, rfl, c0⟩ | ⟨hn3, rfl, f0, t0, rfl⟩ | ⟨hn3, d0, f0, t0, c0⟩ | ⟨hn3, rfl, f0, rfl, rfl⟩ | ⟨hn3, rfl, rfl, rfl, rfl⟩ | ⟨hn3, d0, rfl, rfl, c0⟩ | ⟨hn3, rfl, rfl, rfl, c0⟩
  · have hk7 : ((n : Int) == 7) = false := by simp only [beq_eq_false_iff_ne]; omega
    have HW : Hid (opW (n : Int) d fb fa 0 ta c r = [kw n, dirS d, ndS fb fa, dec c]) := Lib.hid (by unfold opW; simp [d0, f0, c0, show ¬ ((n : Int) = 7) by omega])
    have hd1 : (d == 0) = false := by simpa using d0
    have hf1 : (fb == 0) = false := by simpa using f0
    have hc1 : (c == 0) = false := by simpa using c0
    clear hn3 d0 f0 c0
    go_enter Tryz.func31, Tryz.ntmps31
    go_upto_region 1 with fail
    rw [← HW0.out]
    go_cut [3] (fun s3 wx => OwR 9 1 wx w0.heap.size wx.heap.size s3 1 [.string (kw n)] ∧ Below w0.heap.size w0 wx)
    case first =>
      have x0 := (box8T HX0.out).1.1
      have hlt := (box8T HX0.out).2
      go_region_with (go_at_call 52; (refine (opWords_any _).mono ?_); rintro e wq ⟨g, rfl, hg, hq⟩; have hr : Below w0.heap.size w0 wq := Below.trans (by first | assumption | go_grown) (hq.mono (Below.size (w := w0) (B := w0.heap.size) (by first | assumption | go_grown))); have hgn := hg n hn; have x0 := (box8T (keep_fwd hr HX0.out)).1.1; clear hq hg)
      all_goals (go_wp2_with fail; go_meet; exact ⟨(OwR.lit _ _ _).mono hr.size (Nat.le_refl _), hr.trans ((al1 _ _).mono hr.size)⟩)
    case rest =>
    clear HK
    obtain ⟨v1, hv1⟩ : ∃ x, x = u3 := ⟨_, rfl⟩
    subst hv1
    obtain ⟨w1, hw1⟩ : ∃ x, x = wc := ⟨_, rfl⟩
    subst hw1
    obtain ⟨hO, hB⟩ := hcut
    have HO1 := Lib.hid hO
    have HB1 := Lib.hid hB
    clear hO hB
    obtain ⟨⟨x0, x1, x2, x3, x4, x5, x6, x7⟩, hlt⟩ := box8T (keep_fwd HB1.out HX0.out)
    go_wp2_with fail
    clear x0 x1 x2 x3 x4 x5 x6 x7 hlt
    have HTN := Lib.hid (HT0.out.below HB1.out)
    refine (directionText_any d _).mono ?_
    rintro e w2 ⟨rfl, hq⟩
    have HB2 := Lib.hid (HB1.out.trans (hq.mono HB1.out.size))
    have hO2 := HO1.out.below hq (Nat.le_refl _)
    have hz2 := HB2.out.size
    have HO2 := Lib.hid hO2
    clear HTN hq HB1 HO1 hO2
    go_wp2_with (at_builtin; refine wpList_append_elem Tryz.underlying46 str_info rfl (by decide) (by decide) rfl (.tmp 13) (.tmp 17) rfl w2 _ _ _ _ _ [.string (dirS d)] rfl rfl HO2.out hz2 (by decide) rfl (by simp [Value.oneCell']) ?_; intro v3 w3 hO3 hg3 _; have hB3 := HB2.out.trans (HO2.out.grown hg3 (Nat.le_refl _) hz2); obtain ⟨⟨x0, x1, x2, x3, x4, x5, x6, x7⟩, hlt⟩ := box8T (keep_fwd hB3 HX0.out))
    have HB3 := Lib.hid hB3
    have HO3 := Lib.hid hO3
    clear hO3 hg3 hB3 HB2 HO2 hz2
    clear x0 x1 x2 x3 x4 x5 x6 x7 hlt
    have HTN := Lib.hid (HT0.out.below HB3.out)
    refine (needleText_any fb (a := fa) ia HTN.out).mono ?_
    rintro e w4 ⟨rfl, hq⟩
    have HB4 := Lib.hid (HB3.out.trans (hq.mono HB3.out.size))
    have hO4 := HO3.out.below hq (Nat.le_refl _)
    have hz4 := HB4.out.size
    have HO4 := Lib.hid hO4
    clear HTN hq HB3 HO3 hO4
    go_wp2_with (at_builtin; refine wpList_append_elem Tryz.underlying46 str_info rfl (by decide) (by decide) rfl (.tmp 23) (.tmp 27) rfl w4 _ _ _ _ _ [.string (ndS fb fa)] rfl rfl HO4.out hz4 (by decide) rfl (by simp [Value.oneCell']) ?_; intro v5 w5 hO5 hg5 _; have hB5 := HB4.out.trans (HO4.out.grown hg5 (Nat.le_refl _) hz4); obtain ⟨⟨x0, x1, x2, x3, x4, x5, x6, x7⟩, hlt⟩ := box8T (keep_fwd hB5 HX0.out))
    have HB5 := Lib.hid hB5
    have HO5 := Lib.hid hO5
    clear hO5 hg5 hB5 HB4 HO4 hz4
    clear x0 x1 x2 x3 x4 x5 x6 x7 hlt
    have HTN := Lib.hid (HT0.out.below HB5.out)
    refine (Decimal_any (n := c) ca HTN.out).mono ?_
    rintro e w6 ⟨rfl, hq⟩
    have HB6 := Lib.hid (HB5.out.trans (hq.mono HB5.out.size))
    have hO6 := HO5.out.below hq (Nat.le_refl _)
    have hz6 := HB6.out.size
    have HO6 := Lib.hid hO6
    clear HTN hq HB5 HO5 hO6
    go_wp2_with (at_builtin; refine wpList_append_elem Tryz.underlying46 str_info rfl (by decide) (by decide) rfl (.tmp 42) (.tmp 46) rfl w6 _ _ _ _ _ [.string (dec c)] rfl rfl HO6.out hz6 (by decide) rfl (by simp [Value.oneCell']) ?_; intro v7 w7 hO7 hg7 _; have hB7 := HB6.out.trans (HO6.out.grown hg7 (Nat.le_refl _) hz6); obtain ⟨⟨x0, x1, x2, x3, x4, x5, x6, x7⟩, hlt⟩ := box8T (keep_fwd hB7 HX0.out))
    have HB7 := Lib.hid hB7
    have HO7 := Lib.hid hO7
    clear hO7 hg7 hB7 HB6 HO6 hz6
    clear x0 x1 x2 x3 x4 x5 x6 x7 hlt
    rcases HO7.out.form with ⟨-, hbad, -⟩ | ⟨gr, cap, hv, hgl, hgh, hcp, -, -, hcl⟩
    · exact absurd hbad (by decide)
    subst hv
    have HJ : Hid (Calls Tryz.prog 55 #[.slice (some ⟨gr, 0, none⟩) 4 cap, .string { data := #[32] }] w7 fun e w' => e = .returned (.string (joinB [kw n, dirS d, ndS fb fa, dec c])) ∧ Below w7.heap.size w7 w') := Lib.hid (Tryz.strings_Join gr 0 cap [kw n, dirS d, ndS fb fa, dec c] { data := #[32] } w7 (fun j x hx => by
      rw [Nat.zero_add]
      refine hcl j _ ?_
      match j, hx with
      | 0, hx => cases hx; rfl
      | 1, hx => cases hx; rfl
      | 2, hx => cases hx; rfl
      | 3, hx => cases hx; rfl
      | j + 4, hx => simp at hx) hgh (by simp) hcp (Nat.le_trans (join_len _ (fun x hx => by
        simp only [List.mem_cons, List.mem_nil_iff, or_false] at hx
        rcases hx with rfl | rfl | rfl | rfl
        · exact Nat.le_trans (kw_size _) (by decide)
        · exact Nat.le_trans (dirS_size _) (by decide)
        · exact Nat.le_trans (ndS_size ia) (by decide)
        · exact Nat.le_trans (dec_size ca) (by decide)
        )) (by simp)))
    clear hcl hcp
    refine HJ.out.mono ?_
    rintro e w8 ⟨rfl, hq⟩
    go_wp2_with fail
    go_ret
    rw [opTx, HW.out]
    exact ⟨rfl, HB0.out.trans ((HB7.out.trans (hq.mono HB7.out.size)).mono (by omega))⟩
  · have hk7 : ((n : Int) == 7) = false := by simp only [beq_eq_false_iff_ne]; omega
    have HW : Hid (opW (n : Int) 0 fb fa tb ta 0 r = [kw n, ndS fb fa, ndS tb ta]) := Lib.hid (by unfold opW; simp [f0, t0, show ¬ ((n : Int) = 7) by omega])
    have hf1 : (fb == 0) = false := by simpa using f0
    have ht1 : (tb == 0) = false := by simpa using t0
    clear hn3 f0 t0
    go_enter Tryz.func31, Tryz.ntmps31
    go_upto_region 1 with fail
    rw [← HW0.out]
    go_cut [3] (fun s3 wx => OwR 9 1 wx w0.heap.size wx.heap.size s3 1 [.string (kw n)] ∧ Below w0.heap.size w0 wx)
    case first =>
      have x0 := (box8T HX0.out).1.1
      have hlt := (box8T HX0.out).2
      go_region_with (go_at_call 52; (refine (opWords_any _).mono ?_); rintro e wq ⟨g, rfl, hg, hq⟩; have hr : Below w0.heap.size w0 wq := Below.trans (by first | assumption | go_grown) (hq.mono (Below.size (w := w0) (B := w0.heap.size) (by first | assumption | go_grown))); have hgn := hg n hn; have x0 := (box8T (keep_fwd hr HX0.out)).1.1; clear hq hg)
      all_goals (go_wp2_with fail; go_meet; exact ⟨(OwR.lit _ _ _).mono hr.size (Nat.le_refl _), hr.trans ((al1 _ _).mono hr.size)⟩)
    case rest =>
    clear HK
    obtain ⟨v1, hv1⟩ : ∃ x, x = u3 := ⟨_, rfl⟩
    subst hv1
    obtain ⟨w1, hw1⟩ : ∃ x, x = wc := ⟨_, rfl⟩
    subst hw1
    obtain ⟨hO, hB⟩ := hcut
    have HO1 := Lib.hid hO
    have HB1 := Lib.hid hB
    clear hO hB
    obtain ⟨⟨x0, x1, x2, x3, x4, x5, x6, x7⟩, hlt⟩ := box8T (keep_fwd HB1.out HX0.out)
    go_wp2_with fail
    clear x0 x1 x2 x3 x4 x5 x6 x7 hlt
    have HTN := Lib.hid (HT0.out.below HB1.out)
    refine (needleText_any fb (a := fa) ia HTN.out).mono ?_
    rintro e w2 ⟨rfl, hq⟩
    have HB2 := Lib.hid (HB1.out.trans (hq.mono HB1.out.size))
    have hO2 := HO1.out.below hq (Nat.le_refl _)
    have hz2 := HB2.out.size
    have HO2 := Lib.hid hO2
    clear HTN hq HB1 HO1 hO2
    go_wp2_with (at_builtin; refine wpList_append_elem Tryz.underlying46 str_info rfl (by decide) (by decide) rfl (.tmp 23) (.tmp 27) rfl w2 _ _ _ _ _ [.string (ndS fb fa)] rfl rfl HO2.out hz2 (by decide) rfl (by simp [Value.oneCell']) ?_; intro v3 w3 hO3 hg3 _; have hB3 := HB2.out.trans (HO2.out.grown hg3 (Nat.le_refl _) hz2); obtain ⟨⟨x0, x1, x2, x3, x4, x5, x6, x7⟩, hlt⟩ := box8T (keep_fwd hB3 HX0.out))
    have HB3 := Lib.hid hB3
    have HO3 := Lib.hid hO3
    clear hO3 hg3 hB3 HB2 HO2 hz2
    clear x0 x1 x2 x3 x4 x5 x6 x7 hlt
    have HTN := Lib.hid (HT0.out.below HB3.out)
    refine (needleText_any tb (a := ta) ja HTN.out).mono ?_
    rintro e w4 ⟨rfl, hq⟩
    have HB4 := Lib.hid (HB3.out.trans (hq.mono HB3.out.size))
    have hO4 := HO3.out.below hq (Nat.le_refl _)
    have hz4 := HB4.out.size
    have HO4 := Lib.hid hO4
    clear HTN hq HB3 HO3 hO4
    go_wp2_with (at_builtin; refine wpList_append_elem Tryz.underlying46 str_info rfl (by decide) (by decide) rfl (.tmp 33) (.tmp 37) rfl w4 _ _ _ _ _ [.string (ndS tb ta)] rfl rfl HO4.out hz4 (by decide) rfl (by simp [Value.oneCell']) ?_; intro v5 w5 hO5 hg5 _; have hB5 := HB4.out.trans (HO4.out.grown hg5 (Nat.le_refl _) hz4); obtain ⟨⟨x0, x1, x2, x3, x4, x5, x6, x7⟩, hlt⟩ := box8T (keep_fwd hB5 HX0.out))
    have HB5 := Lib.hid hB5
    have HO5 := Lib.hid hO5
    clear hO5 hg5 hB5 HB4 HO4 hz4
    clear x0 x1 x2 x3 x4 x5 x6 x7 hlt
    rcases HO5.out.form with ⟨-, hbad, -⟩ | ⟨gr, cap, hv, hgl, hgh, hcp, -, -, hcl⟩
    · exact absurd hbad (by decide)
    subst hv
    have HJ : Hid (Calls Tryz.prog 55 #[.slice (some ⟨gr, 0, none⟩) 3 cap, .string { data := #[32] }] w5 fun e w' => e = .returned (.string (joinB [kw n, ndS fb fa, ndS tb ta])) ∧ Below w5.heap.size w5 w') := Lib.hid (Tryz.strings_Join gr 0 cap [kw n, ndS fb fa, ndS tb ta] { data := #[32] } w5 (fun j x hx => by
      rw [Nat.zero_add]
      refine hcl j _ ?_
      match j, hx with
      | 0, hx => cases hx; rfl
      | 1, hx => cases hx; rfl
      | 2, hx => cases hx; rfl
      | j + 3, hx => simp at hx) hgh (by simp) hcp (Nat.le_trans (join_len _ (fun x hx => by
        simp only [List.mem_cons, List.mem_nil_iff, or_false] at hx
        rcases hx with rfl | rfl | rfl
        · exact Nat.le_trans (kw_size _) (by decide)
        · exact Nat.le_trans (ndS_size ia) (by decide)
        · exact Nat.le_trans (ndS_size ja) (by decide)
        )) (by simp)))
    clear hcl hcp
    refine HJ.out.mono ?_
    rintro e w6 ⟨rfl, hq⟩
    go_wp2_with fail
    go_ret
    rw [opTx, HW.out]
    exact ⟨rfl, HB0.out.trans ((HB5.out.trans (hq.mono HB5.out.size)).mono (by omega))⟩
  · have hk7 : ((n : Int) == 7) = false := by simp only [beq_eq_false_iff_ne]; omega
    have HW : Hid (opW (n : Int) d fb fa tb ta c r = [kw n, dirS d, ndS fb fa, ndS tb ta, dec c]) := Lib.hid (by unfold opW; simp [d0, f0, t0, c0, show ¬ ((n : Int) = 7) by omega])
    have hd1 : (d == 0) = false := by simpa using d0
    have hf1 : (fb == 0) = false := by simpa using f0
    have ht1 : (tb == 0) = false := by simpa using t0
    have hc1 : (c == 0) = false := by simpa using c0
    clear hn3 d0 f0 t0 c0
    go_enter Tryz.func31, Tryz.ntmps31
    go_upto_region 1 with fail
    rw [← HW0.out]
    go_cut [3] (fun s3 wx => OwR 9 1 wx w0.heap.size wx.heap.size s3 1 [.string (kw n)] ∧ Below w0.heap.size w0 wx)
    case first =>
      have x0 := (box8T HX0.out).1.1
      have hlt := (box8T HX0.out).2
      go_region_with (go_at_call 52; (refine (opWords_any _).mono ?_); rintro e wq ⟨g, rfl, hg, hq⟩; have hr : Below w0.heap.size w0 wq := Below.trans (by first | assumption | go_grown) (hq.mono (Below.size (w := w0) (B := w0.heap.size) (by first | assumption | go_grown))); have hgn := hg n hn; have x0 := (box8T (keep_fwd hr HX0.out)).1.1; clear hq hg)
      all_goals (go_wp2_with fail; go_meet; exact ⟨(OwR.lit _ _ _).mono hr.size (Nat.le_refl _), hr.trans ((al1 _ _).mono hr.size)⟩)
    case rest =>
    clear HK
    obtain ⟨v1, hv1⟩ : ∃ x, x = u3 := ⟨_, rfl⟩
    subst hv1
    obtain ⟨w1, hw1⟩ : ∃ x, x = wc := ⟨_, rfl⟩
    subst hw1
    obtain ⟨hO, hB⟩ := hcut
    have HO1 := Lib.hid hO
    have HB1 := Lib.hid hB
    clear hO hB
    obtain ⟨⟨x0, x1, x2, x3, x4, x5, x6, x7⟩, hlt⟩ := box8T (keep_fwd HB1.out HX0.out)
    go_wp2_with fail
    clear x0 x1 x2 x3 x4 x5 x6 x7 hlt
    have HTN := Lib.hid (HT0.out.below HB1.out)
    refine (directionText_any d _).mono ?_
    rintro e w2 ⟨rfl, hq⟩
    have HB2 := Lib.hid (HB1.out.trans (hq.mono HB1.out.size))
    have hO2 := HO1.out.below hq (Nat.le_refl _)
    have hz2 := HB2.out.size
    have HO2 := Lib.hid hO2
    clear HTN hq HB1 HO1 hO2
    go_wp2_with (at_builtin; refine wpList_append_elem Tryz.underlying46 str_info rfl (by decide) (by decide) rfl (.tmp 13) (.tmp 17) rfl w2 _ _ _ _ _ [.string (dirS d)] rfl rfl HO2.out hz2 (by decide) rfl (by simp [Value.oneCell']) ?_; intro v3 w3 hO3 hg3 _; have hB3 := HB2.out.trans (HO2.out.grown hg3 (Nat.le_refl _) hz2); obtain ⟨⟨x0, x1, x2, x3, x4, x5, x6, x7⟩, hlt⟩ := box8T (keep_fwd hB3 HX0.out))
    have HB3 := Lib.hid hB3
    have HO3 := Lib.hid hO3
    clear hO3 hg3 hB3 HB2 HO2 hz2
    clear x0 x1 x2 x3 x4 x5 x6 x7 hlt
    have HTN := Lib.hid (HT0.out.below HB3.out)
    refine (needleText_any fb (a := fa) ia HTN.out).mono ?_
    rintro e w4 ⟨rfl, hq⟩
    have HB4 := Lib.hid (HB3.out.trans (hq.mono HB3.out.size))
    have hO4 := HO3.out.below hq (Nat.le_refl _)
    have hz4 := HB4.out.size
    have HO4 := Lib.hid hO4
    clear HTN hq HB3 HO3 hO4
    go_wp2_with (at_builtin; refine wpList_append_elem Tryz.underlying46 str_info rfl (by decide) (by decide) rfl (.tmp 23) (.tmp 27) rfl w4 _ _ _ _ _ [.string (ndS fb fa)] rfl rfl HO4.out hz4 (by decide) rfl (by simp [Value.oneCell']) ?_; intro v5 w5 hO5 hg5 _; have hB5 := HB4.out.trans (HO4.out.grown hg5 (Nat.le_refl _) hz4); obtain ⟨⟨x0, x1, x2, x3, x4, x5, x6, x7⟩, hlt⟩ := box8T (keep_fwd hB5 HX0.out))
    have HB5 := Lib.hid hB5
    have HO5 := Lib.hid hO5
    clear hO5 hg5 hB5 HB4 HO4 hz4
    clear x0 x1 x2 x3 x4 x5 x6 x7 hlt
    have HTN := Lib.hid (HT0.out.below HB5.out)
    refine (needleText_any tb (a := ta) ja HTN.out).mono ?_
    rintro e w6 ⟨rfl, hq⟩
    have HB6 := Lib.hid (HB5.out.trans (hq.mono HB5.out.size))
    have hO6 := HO5.out.below hq (Nat.le_refl _)
    have hz6 := HB6.out.size
    have HO6 := Lib.hid hO6
    clear HTN hq HB5 HO5 hO6
    go_wp2_with (at_builtin; refine wpList_append_elem Tryz.underlying46 str_info rfl (by decide) (by decide) rfl (.tmp 33) (.tmp 37) rfl w6 _ _ _ _ _ [.string (ndS tb ta)] rfl rfl HO6.out hz6 (by decide) rfl (by simp [Value.oneCell']) ?_; intro v7 w7 hO7 hg7 _; have hB7 := HB6.out.trans (HO6.out.grown hg7 (Nat.le_refl _) hz6); obtain ⟨⟨x0, x1, x2, x3, x4, x5, x6, x7⟩, hlt⟩ := box8T (keep_fwd hB7 HX0.out))
    have HB7 := Lib.hid hB7
    have HO7 := Lib.hid hO7
    clear hO7 hg7 hB7 HB6 HO6 hz6
    clear x0 x1 x2 x3 x4 x5 x6 x7 hlt
    have HTN := Lib.hid (HT0.out.below HB7.out)
    refine (Decimal_any (n := c) ca HTN.out).mono ?_
    rintro e w8 ⟨rfl, hq⟩
    have HB8 := Lib.hid (HB7.out.trans (hq.mono HB7.out.size))
    have hO8 := HO7.out.below hq (Nat.le_refl _)
    have hz8 := HB8.out.size
    have HO8 := Lib.hid hO8
    clear HTN hq HB7 HO7 hO8
    go_wp2_with (at_builtin; refine wpList_append_elem Tryz.underlying46 str_info rfl (by decide) (by decide) rfl (.tmp 42) (.tmp 46) rfl w8 _ _ _ _ _ [.string (dec c)] rfl rfl HO8.out hz8 (by decide) rfl (by simp [Value.oneCell']) ?_; intro v9 w9 hO9 hg9 _; have hB9 := HB8.out.trans (HO8.out.grown hg9 (Nat.le_refl _) hz8); obtain ⟨⟨x0, x1, x2, x3, x4, x5, x6, x7⟩, hlt⟩ := box8T (keep_fwd hB9 HX0.out))
    have HB9 := Lib.hid hB9
    have HO9 := Lib.hid hO9
    clear hO9 hg9 hB9 HB8 HO8 hz8
    clear x0 x1 x2 x3 x4 x5 x6 x7 hlt
    rcases HO9.out.form with ⟨-, hbad, -⟩ | ⟨gr, cap, hv, hgl, hgh, hcp, -, -, hcl⟩
    · exact absurd hbad (by decide)
    subst hv
    have HJ : Hid (Calls Tryz.prog 55 #[.slice (some ⟨gr, 0, none⟩) 5 cap, .string { data := #[32] }] w9 fun e w' => e = .returned (.string (joinB [kw n, dirS d, ndS fb fa, ndS tb ta, dec c])) ∧ Below w9.heap.size w9 w') := Lib.hid (Tryz.strings_Join gr 0 cap [kw n, dirS d, ndS fb fa, ndS tb ta, dec c] { data := #[32] } w9 (fun j x hx => by
      rw [Nat.zero_add]
      refine hcl j _ ?_
      match j, hx with
      | 0, hx => cases hx; rfl
      | 1, hx => cases hx; rfl
      | 2, hx => cases hx; rfl
      | 3, hx => cases hx; rfl
      | 4, hx => cases hx; rfl
      | j + 5, hx => simp at hx) hgh (by simp) hcp (Nat.le_trans (join_len _ (fun x hx => by
        simp only [List.mem_cons, List.mem_nil_iff, or_false] at hx
        rcases hx with rfl | rfl | rfl | rfl | rfl
        · exact Nat.le_trans (kw_size _) (by decide)
        · exact Nat.le_trans (dirS_size _) (by decide)
        · exact Nat.le_trans (ndS_size ia) (by decide)
        · exact Nat.le_trans (ndS_size ja) (by decide)
        · exact Nat.le_trans (dec_size ca) (by decide)
        )) (by simp)))
    clear hcl hcp
    refine HJ.out.mono ?_
    rintro e w10 ⟨rfl, hq⟩
    go_wp2_with fail
    go_ret
    rw [opTx, HW.out]
    exact ⟨rfl, HB0.out.trans ((HB9.out.trans (hq.mono HB9.out.size)).mono (by omega))⟩
  · have hk7 : ((n : Int) == 7) = false := by simp only [beq_eq_false_iff_ne]; omega
    have HW : Hid (opW (n : Int) 0 fb fa 0 ta 0 r = [kw n, ndS fb fa]) := Lib.hid (by unfold opW; simp [f0, show ¬ ((n : Int) = 7) by omega])
    have hf1 : (fb == 0) = false := by simpa using f0
    clear hn3 f0
    go_enter Tryz.func31, Tryz.ntmps31
    go_upto_region 1 with fail
    rw [← HW0.out]
    go_cut [3] (fun s3 wx => OwR 9 1 wx w0.heap.size wx.heap.size s3 1 [.string (kw n)] ∧ Below w0.heap.size w0 wx)
    case first =>
      have x0 := (box8T HX0.out).1.1
      have hlt := (box8T HX0.out).2
      go_region_with (go_at_call 52; (refine (opWords_any _).mono ?_); rintro e wq ⟨g, rfl, hg, hq⟩; have hr : Below w0.heap.size w0 wq := Below.trans (by first | assumption | go_grown) (hq.mono (Below.size (w := w0) (B := w0.heap.size) (by first | assumption | go_grown))); have hgn := hg n hn; have x0 := (box8T (keep_fwd hr HX0.out)).1.1; clear hq hg)
      all_goals (go_wp2_with fail; go_meet; exact ⟨(OwR.lit _ _ _).mono hr.size (Nat.le_refl _), hr.trans ((al1 _ _).mono hr.size)⟩)
    case rest =>
    clear HK
    obtain ⟨v1, hv1⟩ : ∃ x, x = u3 := ⟨_, rfl⟩
    subst hv1
    obtain ⟨w1, hw1⟩ : ∃ x, x = wc := ⟨_, rfl⟩
    subst hw1
    obtain ⟨hO, hB⟩ := hcut
    have HO1 := Lib.hid hO
    have HB1 := Lib.hid hB
    clear hO hB
    obtain ⟨⟨x0, x1, x2, x3, x4, x5, x6, x7⟩, hlt⟩ := box8T (keep_fwd HB1.out HX0.out)
    go_wp2_with fail
    clear x0 x1 x2 x3 x4 x5 x6 x7 hlt
    have HTN := Lib.hid (HT0.out.below HB1.out)
    refine (needleText_any fb (a := fa) ia HTN.out).mono ?_
    rintro e w2 ⟨rfl, hq⟩
    have HB2 := Lib.hid (HB1.out.trans (hq.mono HB1.out.size))
    have hO2 := HO1.out.below hq (Nat.le_refl _)
    have hz2 := HB2.out.size
    have HO2 := Lib.hid hO2
    clear HTN hq HB1 HO1 hO2
    go_wp2_with (at_builtin; refine wpList_append_elem Tryz.underlying46 str_info rfl (by decide) (by decide) rfl (.tmp 23) (.tmp 27) rfl w2 _ _ _ _ _ [.string (ndS fb fa)] rfl rfl HO2.out hz2 (by decide) rfl (by simp [Value.oneCell']) ?_; intro v3 w3 hO3 hg3 _; have hB3 := HB2.out.trans (HO2.out.grown hg3 (Nat.le_refl _) hz2); obtain ⟨⟨x0, x1, x2, x3, x4, x5, x6, x7⟩, hlt⟩ := box8T (keep_fwd hB3 HX0.out))
    have HB3 := Lib.hid hB3
    have HO3 := Lib.hid hO3
    clear hO3 hg3 hB3 HB2 HO2 hz2
    clear x0 x1 x2 x3 x4 x5 x6 x7 hlt
    rcases HO3.out.form with ⟨-, hbad, -⟩ | ⟨gr, cap, hv, hgl, hgh, hcp, -, -, hcl⟩
    · exact absurd hbad (by decide)
    subst hv
    have HJ : Hid (Calls Tryz.prog 55 #[.slice (some ⟨gr, 0, none⟩) 2 cap, .string { data := #[32] }] w3 fun e w' => e = .returned (.string (joinB [kw n, ndS fb fa])) ∧ Below w3.heap.size w3 w') := Lib.hid (Tryz.strings_Join gr 0 cap [kw n, ndS fb fa] { data := #[32] } w3 (fun j x hx => by
      rw [Nat.zero_add]
      refine hcl j _ ?_
      match j, hx with
      | 0, hx => cases hx; rfl
      | 1, hx => cases hx; rfl
      | j + 2, hx => simp at hx) hgh (by simp) hcp (Nat.le_trans (join_len _ (fun x hx => by
        simp only [List.mem_cons, List.mem_nil_iff, or_false] at hx
        rcases hx with rfl | rfl
        · exact Nat.le_trans (kw_size _) (by decide)
        · exact Nat.le_trans (ndS_size ia) (by decide)
        )) (by simp)))
    clear hcl hcp
    refine HJ.out.mono ?_
    rintro e w4 ⟨rfl, hq⟩
    go_wp2_with fail
    go_ret
    rw [opTx, HW.out]
    exact ⟨rfl, HB0.out.trans ((HB3.out.trans (hq.mono HB3.out.size)).mono (by omega))⟩
  · have hk7 : ((n : Int) == 7) = true := by subst hn3; rfl
    have HW : Hid (opW (n : Int) 0 0 fa 0 ta 0 r = [kw n, dec r]) := Lib.hid (by unfold opW; simp [hn3])
    clear hn3 
    go_enter Tryz.func31, Tryz.ntmps31
    go_upto_region 1 with fail
    rw [← HW0.out]
    go_cut [3] (fun s3 wx => OwR 9 1 wx w0.heap.size wx.heap.size s3 1 [.string (kw n)] ∧ Below w0.heap.size w0 wx)
    case first =>
      have x0 := (box8T HX0.out).1.1
      have hlt := (box8T HX0.out).2
      go_region_with (go_at_call 52; (refine (opWords_any _).mono ?_); rintro e wq ⟨g, rfl, hg, hq⟩; have hr : Below w0.heap.size w0 wq := Below.trans (by first | assumption | go_grown) (hq.mono (Below.size (w := w0) (B := w0.heap.size) (by first | assumption | go_grown))); have hgn := hg n hn; have x0 := (box8T (keep_fwd hr HX0.out)).1.1; clear hq hg)
      all_goals (go_wp2_with fail; go_meet; exact ⟨(OwR.lit _ _ _).mono hr.size (Nat.le_refl _), hr.trans ((al1 _ _).mono hr.size)⟩)
    case rest =>
    clear HK
    obtain ⟨v1, hv1⟩ : ∃ x, x = u3 := ⟨_, rfl⟩
    subst hv1
    obtain ⟨w1, hw1⟩ : ∃ x, x = wc := ⟨_, rfl⟩
    subst hw1
    obtain ⟨hO, hB⟩ := hcut
    have HO1 := Lib.hid hO
    have HB1 := Lib.hid hB
    clear hO hB
    obtain ⟨⟨x0, x1, x2, x3, x4, x5, x6, x7⟩, hlt⟩ := box8T (keep_fwd HB1.out HX0.out)
    go_wp2_with fail
    clear x0 x1 x2 x3 x4 x5 x6 x7 hlt
    have HTN := Lib.hid (HT0.out.below HB1.out)
    refine (Decimal_any (n := r) ra HTN.out).mono ?_
    rintro e w2 ⟨rfl, hq⟩
    have HB2 := Lib.hid (HB1.out.trans (hq.mono HB1.out.size))
    have hO2 := HO1.out.below hq (Nat.le_refl _)
    have hz2 := HB2.out.size
    have HO2 := Lib.hid hO2
    clear HTN hq HB1 HO1 hO2
    go_wp2_with (at_builtin; refine wpList_append_elem Tryz.underlying46 str_info rfl (by decide) (by decide) rfl (.tmp 51) (.tmp 55) rfl w2 _ _ _ _ _ [.string (dec r)] rfl rfl HO2.out hz2 (by decide) rfl (by simp [Value.oneCell']) ?_; intro v3 w3 hO3 hg3 _; have hB3 := HB2.out.trans (HO2.out.grown hg3 (Nat.le_refl _) hz2); obtain ⟨⟨x0, x1, x2, x3, x4, x5, x6, x7⟩, hlt⟩ := box8T (keep_fwd hB3 HX0.out))
    have HB3 := Lib.hid hB3
    have HO3 := Lib.hid hO3
    clear hO3 hg3 hB3 HB2 HO2 hz2
    clear x0 x1 x2 x3 x4 x5 x6 x7 hlt
    rcases HO3.out.form with ⟨-, hbad, -⟩ | ⟨gr, cap, hv, hgl, hgh, hcp, -, -, hcl⟩
    · exact absurd hbad (by decide)
    subst hv
    have HJ : Hid (Calls Tryz.prog 55 #[.slice (some ⟨gr, 0, none⟩) 2 cap, .string { data := #[32] }] w3 fun e w' => e = .returned (.string (joinB [kw n, dec r])) ∧ Below w3.heap.size w3 w') := Lib.hid (Tryz.strings_Join gr 0 cap [kw n, dec r] { data := #[32] } w3 (fun j x hx => by
      rw [Nat.zero_add]
      refine hcl j _ ?_
      match j, hx with
      | 0, hx => cases hx; rfl
      | 1, hx => cases hx; rfl
      | j + 2, hx => simp at hx) hgh (by simp) hcp (Nat.le_trans (join_len _ (fun x hx => by
        simp only [List.mem_cons, List.mem_nil_iff, or_false] at hx
        rcases hx with rfl | rfl
        · exact Nat.le_trans (kw_size _) (by decide)
        · exact Nat.le_trans (dec_size ra) (by decide)
        )) (by simp)))
    clear hcl hcp
    refine HJ.out.mono ?_
    rintro e w4 ⟨rfl, hq⟩
    go_wp2_with fail
    go_ret
    rw [opTx, HW.out]
    exact ⟨rfl, HB0.out.trans ((HB3.out.trans (hq.mono HB3.out.size)).mono (by omega))⟩
  · have hk7 : ((n : Int) == 7) = false := by simp only [beq_eq_false_iff_ne]; omega
    have HW : Hid (opW (n : Int) d 0 fa 0 ta c r = [kw n, dirS d, dec c]) := Lib.hid (by unfold opW; simp [d0, c0, show ¬ ((n : Int) = 7) by omega])
    have hd1 : (d == 0) = false := by simpa using d0
    have hc1 : (c == 0) = false := by simpa using c0
    clear hn3 d0 c0
    go_enter Tryz.func31, Tryz.ntmps31
    go_upto_region 1 with fail
    rw [← HW0.out]
    go_cut [3] (fun s3 wx => OwR 9 1 wx w0.heap.size wx.heap.size s3 1 [.string (kw n)] ∧ Below w0.heap.size w0 wx)
    case first =>
      have x0 := (box8T HX0.out).1.1
      have hlt := (box8T HX0.out).2
      go_region_with (go_at_call 52; (refine (opWords_any _).mono ?_); rintro e wq ⟨g, rfl, hg, hq⟩; have hr : Below w0.heap.size w0 wq := Below.trans (by first | assumption | go_grown) (hq.mono (Below.size (w := w0) (B := w0.heap.size) (by first | assumption | go_grown))); have hgn := hg n hn; have x0 := (box8T (keep_fwd hr HX0.out)).1.1; clear hq hg)
      all_goals (go_wp2_with fail; go_meet; exact ⟨(OwR.lit _ _ _).mono hr.size (Nat.le_refl _), hr.trans ((al1 _ _).mono hr.size)⟩)
    case rest =>
    clear HK
    obtain ⟨v1, hv1⟩ : ∃ x, x = u3 := ⟨_, rfl⟩
    subst hv1
    obtain ⟨w1, hw1⟩ : ∃ x, x = wc := ⟨_, rfl⟩
    subst hw1
    obtain ⟨hO, hB⟩ := hcut
    have HO1 := Lib.hid hO
    have HB1 := Lib.hid hB
    clear hO hB
    obtain ⟨⟨x0, x1, x2, x3, x4, x5, x6, x7⟩, hlt⟩ := box8T (keep_fwd HB1.out HX0.out)
    go_wp2_with fail
    clear x0 x1 x2 x3 x4 x5 x6 x7 hlt
    have HTN := Lib.hid (HT0.out.below HB1.out)
    refine (directionText_any d _).mono ?_
    rintro e w2 ⟨rfl, hq⟩
    have HB2 := Lib.hid (HB1.out.trans (hq.mono HB1.out.size))
    have hO2 := HO1.out.below hq (Nat.le_refl _)
    have hz2 := HB2.out.size
    have HO2 := Lib.hid hO2
    clear HTN hq HB1 HO1 hO2
    go_wp2_with (at_builtin; refine wpList_append_elem Tryz.underlying46 str_info rfl (by decide) (by decide) rfl (.tmp 13) (.tmp 17) rfl w2 _ _ _ _ _ [.string (dirS d)] rfl rfl HO2.out hz2 (by decide) rfl (by simp [Value.oneCell']) ?_; intro v3 w3 hO3 hg3 _; have hB3 := HB2.out.trans (HO2.out.grown hg3 (Nat.le_refl _) hz2); obtain ⟨⟨x0, x1, x2, x3, x4, x5, x6, x7⟩, hlt⟩ := box8T (keep_fwd hB3 HX0.out))
    have HB3 := Lib.hid hB3
    have HO3 := Lib.hid hO3
    clear hO3 hg3 hB3 HB2 HO2 hz2
    clear x0 x1 x2 x3 x4 x5 x6 x7 hlt
    have HTN := Lib.hid (HT0.out.below HB3.out)
    refine (Decimal_any (n := c) ca HTN.out).mono ?_
    rintro e w4 ⟨rfl, hq⟩
    have HB4 := Lib.hid (HB3.out.trans (hq.mono HB3.out.size))
    have hO4 := HO3.out.below hq (Nat.le_refl _)
    have hz4 := HB4.out.size
    have HO4 := Lib.hid hO4
    clear HTN hq HB3 HO3 hO4
    go_wp2_with (at_builtin; refine wpList_append_elem Tryz.underlying46 str_info rfl (by decide) (by decide) rfl (.tmp 42) (.tmp 46) rfl w4 _ _ _ _ _ [.string (dec c)] rfl rfl HO4.out hz4 (by decide) rfl (by simp [Value.oneCell']) ?_; intro v5 w5 hO5 hg5 _; have hB5 := HB4.out.trans (HO4.out.grown hg5 (Nat.le_refl _) hz4); obtain ⟨⟨x0, x1, x2, x3, x4, x5, x6, x7⟩, hlt⟩ := box8T (keep_fwd hB5 HX0.out))
    have HB5 := Lib.hid hB5
    have HO5 := Lib.hid hO5
    clear hO5 hg5 hB5 HB4 HO4 hz4
    clear x0 x1 x2 x3 x4 x5 x6 x7 hlt
    rcases HO5.out.form with ⟨-, hbad, -⟩ | ⟨gr, cap, hv, hgl, hgh, hcp, -, -, hcl⟩
    · exact absurd hbad (by decide)
    subst hv
    have HJ : Hid (Calls Tryz.prog 55 #[.slice (some ⟨gr, 0, none⟩) 3 cap, .string { data := #[32] }] w5 fun e w' => e = .returned (.string (joinB [kw n, dirS d, dec c])) ∧ Below w5.heap.size w5 w') := Lib.hid (Tryz.strings_Join gr 0 cap [kw n, dirS d, dec c] { data := #[32] } w5 (fun j x hx => by
      rw [Nat.zero_add]
      refine hcl j _ ?_
      match j, hx with
      | 0, hx => cases hx; rfl
      | 1, hx => cases hx; rfl
      | 2, hx => cases hx; rfl
      | j + 3, hx => simp at hx) hgh (by simp) hcp (Nat.le_trans (join_len _ (fun x hx => by
        simp only [List.mem_cons, List.mem_nil_iff, or_false] at hx
        rcases hx with rfl | rfl | rfl
        · exact Nat.le_trans (kw_size _) (by decide)
        · exact Nat.le_trans (dirS_size _) (by decide)
        · exact Nat.le_trans (dec_size ca) (by decide)
        )) (by simp)))
    clear hcl hcp
    refine HJ.out.mono ?_
    rintro e w6 ⟨rfl, hq⟩
    go_wp2_with fail
    go_ret
    rw [opTx, HW.out]
    exact ⟨rfl, HB0.out.trans ((HB5.out.trans (hq.mono HB5.out.size)).mono (by omega))⟩
  · have hk7 : ((n : Int) == 7) = false := by simp only [beq_eq_false_iff_ne]; omega
    have HW : Hid (opW (n : Int) 0 0 fa 0 ta c r = [kw n, dec c]) := Lib.hid (by unfold opW; simp [c0, show ¬ ((n : Int) = 7) by omega])
    have hc1 : (c == 0) = false := by simpa using c0
    clear hn3 c0
    go_enter Tryz.func31, Tryz.ntmps31
    go_upto_region 1 with fail
    rw [← HW0.out]
    go_cut [3] (fun s3 wx => OwR 9 1 wx w0.heap.size wx.heap.size s3 1 [.string (kw n)] ∧ Below w0.heap.size w0 wx)
    case first =>
      have x0 := (box8T HX0.out).1.1
      have hlt := (box8T HX0.out).2
      go_region_with (go_at_call 52; (refine (opWords_any _).mono ?_); rintro e wq ⟨g, rfl, hg, hq⟩; have hr : Below w0.heap.size w0 wq := Below.trans (by first | assumption | go_grown) (hq.mono (Below.size (w := w0) (B := w0.heap.size) (by first | assumption | go_grown))); have hgn := hg n hn; have x0 := (box8T (keep_fwd hr HX0.out)).1.1; clear hq hg)
      all_goals (go_wp2_with fail; go_meet; exact ⟨(OwR.lit _ _ _).mono hr.size (Nat.le_refl _), hr.trans ((al1 _ _).mono hr.size)⟩)
    case rest =>
    clear HK
    obtain ⟨v1, hv1⟩ : ∃ x, x = u3 := ⟨_, rfl⟩
    subst hv1
    obtain ⟨w1, hw1⟩ : ∃ x, x = wc := ⟨_, rfl⟩
    subst hw1
    obtain ⟨hO, hB⟩ := hcut
    have HO1 := Lib.hid hO
    have HB1 := Lib.hid hB
    clear hO hB
    obtain ⟨⟨x0, x1, x2, x3, x4, x5, x6, x7⟩, hlt⟩ := box8T (keep_fwd HB1.out HX0.out)
    go_wp2_with fail
    clear x0 x1 x2 x3 x4 x5 x6 x7 hlt
    have HTN := Lib.hid (HT0.out.below HB1.out)
    refine (Decimal_any (n := c) ca HTN.out).mono ?_
    rintro e w2 ⟨rfl, hq⟩
    have HB2 := Lib.hid (HB1.out.trans (hq.mono HB1.out.size))
    have hO2 := HO1.out.below hq (Nat.le_refl _)
    have hz2 := HB2.out.size
    have HO2 := Lib.hid hO2
    clear HTN hq HB1 HO1 hO2
    go_wp2_with (at_builtin; refine wpList_append_elem Tryz.underlying46 str_info rfl (by decide) (by decide) rfl (.tmp 42) (.tmp 46) rfl w2 _ _ _ _ _ [.string (dec c)] rfl rfl HO2.out hz2 (by decide) rfl (by simp [Value.oneCell']) ?_; intro v3 w3 hO3 hg3 _; have hB3 := HB2.out.trans (HO2.out.grown hg3 (Nat.le_refl _) hz2); obtain ⟨⟨x0, x1, x2, x3, x4, x5, x6, x7⟩, hlt⟩ := box8T (keep_fwd hB3 HX0.out))
    have HB3 := Lib.hid hB3
    have HO3 := Lib.hid hO3
    clear hO3 hg3 hB3 HB2 HO2 hz2
    clear x0 x1 x2 x3 x4 x5 x6 x7 hlt
    rcases HO3.out.form with ⟨-, hbad, -⟩ | ⟨gr, cap, hv, hgl, hgh, hcp, -, -, hcl⟩
    · exact absurd hbad (by decide)
    subst hv
    have HJ : Hid (Calls Tryz.prog 55 #[.slice (some ⟨gr, 0, none⟩) 2 cap, .string { data := #[32] }] w3 fun e w' => e = .returned (.string (joinB [kw n, dec c])) ∧ Below w3.heap.size w3 w') := Lib.hid (Tryz.strings_Join gr 0 cap [kw n, dec c] { data := #[32] } w3 (fun j x hx => by
      rw [Nat.zero_add]
      refine hcl j _ ?_
      match j, hx with
      | 0, hx => cases hx; rfl
      | 1, hx => cases hx; rfl
      | j + 2, hx => simp at hx) hgh (by simp) hcp (Nat.le_trans (join_len _ (fun x hx => by
        simp only [List.mem_cons, List.mem_nil_iff, or_false] at hx
        rcases hx with rfl | rfl
        · exact Nat.le_trans (kw_size _) (by decide)
        · exact Nat.le_trans (dec_size ca) (by decide)
        )) (by simp)))
    clear hcl hcp
    refine HJ.out.mono ?_
    rintro e w4 ⟨rfl, hq⟩
    go_wp2_with fail
    go_ret
    rw [opTx, HW.out]
    exact ⟨rfl, HB0.out.trans ((HB3.out.trans (hq.mono HB3.out.size)).mono (by omega))⟩
/-- The text of an operation; none if it is not valid. -/
def opR (k d fb fa tb ta c r : Int) : ByteArray := if vOp k d fb fa tb ta c r then opTx k d fb fa tb ta c r else { data := #[] }
set_option maxHeartbeats 3200000 in
theorem impl_OpText_any (k d fb fa tb ta c r : Int) {w : World} (ht : Tab w) :
    Calls Tryz.prog 16 #[.agg #[.int .i64 k, .int .i64 d, .int .i64 fb, .int .i64 fa, .int .i64 tb, .int .i64 ta, .int .i64 c, .int .i64 r]] w fun e w' => e = .returned (.string (opR k d fb fa tb ta c r)) ∧ Below w.heap.size w w' := by
  have HV := Lib.hid (fun W : World => impl_ValidOp_any k d fb fa tb ta c r W)
  have HX0 := Lib.hid (alloc_at_ w (.cells #[.int .i64 k, .int .i64 d, .int .i64 fb, .int .i64 fa, .int .i64 tb, .int .i64 ta, .int .i64 c, .int .i64 r] 38))
  have HB0 := Lib.hid (al1 w (.cells #[.int .i64 k, .int .i64 d, .int .i64 fb, .int .i64 fa, .int .i64 tb, .int .i64 ta, .int .i64 c, .int .i64 r] 38))
  have HT := Lib.hid ht
  clear ht
  cases hv : vOp k d fb fa tb ta c r
  · have HR : Hid (opR k d fb fa tb ta c r = { data := #[] }) := Lib.hid (by rw [opR, hv]; rfl)
    rw [hv] at HV
    clear hv
    go_enter Tryz.func16, Tryz.ntmps16
    go_wp2_with fail
    refine (HV.out _).mono ?_
    rintro e w1 ⟨rfl, hq⟩
    have HB1 := Lib.hid (HB0.out.trans (hq.mono (by simp)))
    clear hq
    go_wp2_with fail
    go_ret
    rw [HR.out]
    exact ⟨rfl, HB1.out⟩
  · have HR : Hid (opR k d fb fa tb ta c r = opTx k d fb fa tb ta c r) := Lib.hid (by rw [opR, hv]; rfl)
    have HO := Lib.hid (fun (W : World) (hW : Tab W) => opText_any hv hW)
    rw [hv] at HV
    clear hv
    go_enter Tryz.func16, Tryz.ntmps16
    go_wp2_with fail
    refine (HV.out _).mono ?_
    rintro e w1 ⟨rfl, hq⟩
    have HB1 := Lib.hid (HB0.out.trans (hq.mono (by simp)))
    obtain ⟨⟨x0, x1, x2, x3, x4, x5, x6, x7⟩, hlt⟩ := box8T (keep_fwd hq HX0.out)
    clear hq
    go_wp2_with fail
    clear x0 x1 x2 x3 x4 x5 x6 x7 hlt
    refine (HO.out _ (HT.out.below HB1.out)).mono ?_
    rintro e w2 ⟨rfl, hq⟩
    go_wp2_with fail
    go_ret
    rw [HR.out]
    exact ⟨rfl, HB1.out.trans (hq.mono HB1.out.size)⟩
end Go.Proofs.YtgmppfhokfifgaaGreatDoor
