/-
  Contracts: needles read from a text (NeedleText, ReadNeedle of the reference, ReadNeedle of the program). Printed by gen_txm.py.
-/
import Derived.Test.YtgmppfhokfifgaaGreatDoorGtb
namespace Go.Proofs.YtgmppfhokfifgaaGreatDoor
set_option maxRecDepth 10000
open Go.RowKit Go.Sort

def hdBT (s : ByteArray) : UInt8 := s.data.toList.headD 0
theorem hdBT_eq {s : ByteArray} (h : 0 < s.size) : hdBT s = s[0] := by rw [hdBT, hd_form h]; rfl
def ndC (s : ByteArray) : Int × Int × Bool :=
  if (numC (s.extract 1 s.size)).2 = true ∧ ndlB (if hdBT s = 98 then 2 else 1) (numC (s.extract 1 s.size)).1 = true ∧ ndS (if hdBT s = 98 then 2 else 1) (numC (s.extract 1 s.size)).1 = s
  then ((if hdBT s = 98 then 2 else 1), (numC (s.extract 1 s.size)).1, true) else (0, 0, false)
theorem ndC_num {s t : ByteArray} (ht : t = s.extract 1 s.size) (h : (numC t).2 = false) : ndC s = (0, 0, false) := by
  unfold ndC
  rw [← ht, h, if_neg (fun q => by cases q.1)]
theorem ndC_ndl {s t : ByteArray} (ht : t = s.extract 1 s.size) {b : Int} (hb : b = if hdBT s = 98 then 2 else 1) (h : ndlB b (numC t).1 = false) : ndC s = (0, 0, false) := by
  unfold ndC
  rw [← ht, ← hb, h, if_neg (fun q => by cases q.2.1)]
theorem ndC_txt {s t : ByteArray} (ht : t = s.extract 1 s.size) {b : Int} (hb : b = if hdBT s = 98 then 2 else 1) (h : ndS b (numC t).1 ≠ s) : ndC s = (0, 0, false) := by
  unfold ndC
  rw [← ht, ← hb, if_neg (fun q => h q.2.2)]
theorem ndC_yes {s t : ByteArray} (ht : t = s.extract 1 s.size) {b : Int} (hb : b = if hdBT s = 98 then 2 else 1) (h1 : (numC t).2 = true) (h2 : ndlB b (numC t).1 = true) (h3 : ndS b (numC t).1 = s) : ndC s = (b, (numC t).1, true) := by
  unfold ndC
  rw [← ht, ← hb, if_pos ⟨h1, h2, h3⟩]
theorem ndC_small {s : ByteArray} (h : s.size < 2) : ndC s = (0, 0, false) := ndC_num rfl (by
  have : (s.extract 1 s.size).size = 0 := by rw [ByteArray.size_extract]; omega
  rw [ba_empty this, numC_empty])
theorem setBN {w w' : World} {B : Nat} {p : Addr} {x : Value} (hg : B ≤ p.block) (h : Below B w w') : Below B w (w'.setCell p x) :=
  h.trans ⟨rfl, rfl, rfl, by simp, fun k hk => Below.heap_setCell _ _ _ _ (by omega)⟩
theorem allocBN {w w' : World} {B : Nat} {o : Obj} (h : Below B w w') (hs : B ≤ w'.heap.size) : Below B w (w'.alloc o) := h.trans ((al1 w' o).mono hs)
theorem nd_data (b a : Int) : (ndS b a).data.toList = (if b = 1 then 102 else 98) :: Lib.itoa a := by
  unfold ndS
  rw [ByteArray.data_append, Array.toList_append, dec_data]
  split <;> rfl
theorem nd_head {s : ByteArray} (h0 : 0 < s.size) (h : s[0] ≠ 102) (a : Int := (numC (s.extract 1 s.size)).1) : ndS 1 a ≠ s := fun q => by
  have h1 := congrArg (fun x : ByteArray => x.data.toList) q
  simp only [nd_data, hd_form h0, if_true] at h1
  exact h (List.cons.inj h1).1.symm
theorem nd_text {s : ByteArray} {b a : Int} (h0 : 0 < s.size) (h : (b = 1 ∧ s[0] = 102) ∨ (b = 2 ∧ s[0] = 98)) (ha : dec a = s.extract 1 s.size) : ndS b a = s := by
  apply ba_ext
  rw [nd_data, hd_form h0, ← ha, dec_data]
  rcases h with ⟨rfl, h⟩ | ⟨rfl, h⟩
  · rw [h]; rfl
  · rw [h]; rfl
set_option maxHeartbeats 6400000 in
theorem impl_ReadNeedle_any (s : ByteArray) {w : World} (hs : s.size ≤ 1048576) (hd : Dw w) : Calls Tryz.prog 59 #[.string s] w fun e w' => e = .returned (.tuple #[.agg #[.int .i64 (ndC s).1, .int .i64 (ndC s).2.1], .bool (ndC s).2.2]) ∧ Below w.heap.size w w' := by
  have HBX := Lib.hid (al1 w (.cells #[.int .i64 0, .int .i64 0] 36))
  have HD := Lib.hid hd
  clear hd
  rcases Nat.eq_zero_or_pos s.size with h0 | h0
  · have HN := Lib.hid (ndC_small (s := s) (by omega))
    obtain rfl := ba_empty h0
    go_enter Tryz.func59, Tryz.ntmps59
    go_wp2_with fail
    refine bodyPost_ret (v := .tuple #[.agg #[.int .i64 0, .int .i64 0], .bool false]) (by simp [results, Tryz.results59, go_sem]) rfl ?_
    rw [HN.out]
    exact ⟨rfl, HBX.out⟩
  · have hne := ne_emp h0
    have h0i : (0 : Int) < (s.size : Int) := by omega
    obtain ⟨a, ok, hR⟩ : ∃ a ok, numC (s.extract 1 s.size) = (a, ok) := ⟨_, _, rfl⟩
    have hR1 : (numC (s.extract 1 s.size)).1 = a := by rw [hR]
    have hR2 : (numC (s.extract 1 s.size)).2 = ok := by rw [hR]
    have HNUM : Hid (∀ W : World, Dw W → Calls Tryz.prog 44 #[.string (s.extract 1 s.size)] W fun e w' => e = .returned (.tuple #[.int .i64 a, .bool ok]) ∧ Below W.heap.size W w') := Lib.hid fun W hW => by
      have := ReadDecimal_any (s.extract 1 s.size) (w := W) (by rw [ByteArray.size_extract]; omega) hW
      rw [hR] at this
      exact this
    by_cases h98 : s[0] = 98
    · have h98i : (s[0].toNat : Int) = 98 := by rw [h98]; rfl
      have HBD : Hid ((2 : Int) = if hdBT s = 98 then 2 else 1) := Lib.hid (by rw [hdBT_eq h0, h98]; rfl)
      cases ok
      · have HN := Lib.hid (ndC_num (s := s) rfl hR2)
        clear hR hR1 hR2 h98
        go_enter Tryz.func59, Tryz.ntmps59
        go_wp2_with fail
        refine (HNUM.out _ (HD.out.below HBX.out)).mono ?_
        rintro e w1 ⟨rfl, hq⟩
        have hb1 := HBX.out.trans (hq.mono (by simp))
        obtain ⟨a0, a1, af0, af1, al⟩ := box2 (keep_fwd hq (alloc_at_ w (.cells #[.int .i64 0, .int .i64 0] 36)))
        have hx0 := keep_fwd hq (alloc_at_ w (.cells #[.int .i64 0, .int .i64 0] 36))
        clear hq
        go_wp2_with fail
        refine bodyPost_ret (v := .tuple #[.agg #[.int .i64 0, .int .i64 0], .bool false]) (by simp [results, Tryz.results59, go_sem, a0, a1, al, World.cell?_alloc_lt]) rfl ?_
        rw [HN.out]
        refine ⟨rfl, ?_⟩
        repeat (first | exact hb1 | refine setBN (by simp) ?_ | refine allocBN ?_ (by simp; omega))
      · cases hn : ndlB 2 a
        · have HN := Lib.hid (ndC_ndl (s := s) rfl HBD.out (by rw [hR1]; exact hn))
          have HV := Lib.hid (fun W : World => is_below hn (ValidNeedle_any 2 a W))
          clear hn
          clear hR hR1 hR2 h98
          go_enter Tryz.func59, Tryz.ntmps59
          go_wp2_with fail
          refine (HNUM.out _ (HD.out.below HBX.out)).mono ?_
          rintro e w1 ⟨rfl, hq⟩
          have hb1 := HBX.out.trans (hq.mono (by simp))
          obtain ⟨a0, a1, af0, af1, al⟩ := box2 (keep_fwd hq (alloc_at_ w (.cells #[.int .i64 0, .int .i64 0] 36)))
          have hx0 := keep_fwd hq (alloc_at_ w (.cells #[.int .i64 0, .int .i64 0] 36))
          clear hq
          have hb2 : Below w.heap.size w (w1.alloc (.cells #[.int .i64 2, .int .i64 a] 36)) := hb1.trans ((al1 _ _).mono hb1.size)
          have hx2 := keep_fwd (al1 w1 (.cells #[.int .i64 2, .int .i64 a] 36)) hx0
          have hx3 := alloc_at_ w1 (.cells #[.int .i64 2, .int .i64 a] 36)
          have HB2 := Lib.hid hb2
          have HX2 := Lib.hid hx2
          have HX3 := Lib.hid hx3
          clear hb2 hx2 hx3 hx0
          go_wp2_with fail
          clear a0 a1 af0 af1
          refine (HV.out _).mono ?_
          rintro e w2 ⟨rfl, hq⟩
          have hb3 := HB2.out.trans (hq.mono HB2.out.size)
          obtain ⟨a0, a1, af0, af1, al2⟩ := box2 (keep_fwd hq HX2.out)
          obtain ⟨b0, b1, bf0, bf1, bl_⟩ := box2 (keep_fwd hq HX3.out)
          have hne : w1.heap.size ≠ w.heap.size := by omega
          clear hq
          go_wp2_with fail
          refine bodyPost_ret (v := .tuple #[.agg #[.int .i64 0, .int .i64 0], .bool false]) (by simp [results, Tryz.results59, go_sem, a0, a1]) rfl ?_
          rw [HN.out]
          refine ⟨rfl, ?_⟩
          repeat (first | exact hb3 | refine setBN (by simp) ?_)
        · have HN : Hid (ndC s = (2, a, true)) := Lib.hid (by have := ndC_yes (s := s) rfl HBD.out hR2 (by rw [hR1]; exact hn) (by rw [hR1]; exact nd_text h0 (.inr ⟨rfl, h98⟩) (by have := numC_true hR2; rw [hR1] at this; exact this.1)); rw [hR1] at this; exact this)
          have HV := Lib.hid (fun W : World => is_below hn (ValidNeedle_any 2 a W))
          clear hn
          clear hR hR1 hR2 h98
          go_enter Tryz.func59, Tryz.ntmps59
          go_wp2_with fail
          refine (HNUM.out _ (HD.out.below HBX.out)).mono ?_
          rintro e w1 ⟨rfl, hq⟩
          have hb1 := HBX.out.trans (hq.mono (by simp))
          obtain ⟨a0, a1, af0, af1, al⟩ := box2 (keep_fwd hq (alloc_at_ w (.cells #[.int .i64 0, .int .i64 0] 36)))
          have hx0 := keep_fwd hq (alloc_at_ w (.cells #[.int .i64 0, .int .i64 0] 36))
          clear hq
          have hb2 : Below w.heap.size w (w1.alloc (.cells #[.int .i64 2, .int .i64 a] 36)) := hb1.trans ((al1 _ _).mono hb1.size)
          have hx2 := keep_fwd (al1 w1 (.cells #[.int .i64 2, .int .i64 a] 36)) hx0
          have hx3 := alloc_at_ w1 (.cells #[.int .i64 2, .int .i64 a] 36)
          have HB2 := Lib.hid hb2
          have HX2 := Lib.hid hx2
          have HX3 := Lib.hid hx3
          clear hb2 hx2 hx3 hx0
          go_wp2_with fail
          clear a0 a1 af0 af1
          refine (HV.out _).mono ?_
          rintro e w2 ⟨rfl, hq⟩
          have hb3 := HB2.out.trans (hq.mono HB2.out.size)
          obtain ⟨a0, a1, af0, af1, al2⟩ := box2 (keep_fwd hq HX2.out)
          obtain ⟨b0, b1, bf0, bf1, bl_⟩ := box2 (keep_fwd hq HX3.out)
          have hne : w1.heap.size ≠ w.heap.size := by omega
          clear hq
          go_wp2_with fail
          refine bodyPost_ret (v := .tuple #[.agg #[.int .i64 2, .int .i64 a], .bool true]) (by simp [results, Tryz.results59, go_sem, a0, a1]) rfl ?_
          rw [HN.out]
          refine ⟨rfl, ?_⟩
          repeat (first | exact hb3 | refine setBN (by simp) ?_)
    · by_cases h102 : s[0] = 102
      · have h102i : (s[0].toNat : Int) = 102 := by rw [h102]; rfl
        have HBD : Hid ((1 : Int) = if hdBT s = 98 then 2 else 1) := Lib.hid (by rw [hdBT_eq h0, if_neg h98])
        clear h98
        cases ok
        · have HN := Lib.hid (ndC_num (s := s) rfl hR2)
          clear hR hR1 hR2 h102
          go_enter Tryz.func59, Tryz.ntmps59
          go_wp2_with fail
          refine (HNUM.out _ (HD.out.below HBX.out)).mono ?_
          rintro e w1 ⟨rfl, hq⟩
          have hb1 := HBX.out.trans (hq.mono (by simp))
          obtain ⟨a0, a1, af0, af1, al⟩ := box2 (keep_fwd hq (alloc_at_ w (.cells #[.int .i64 0, .int .i64 0] 36)))
          have hx0 := keep_fwd hq (alloc_at_ w (.cells #[.int .i64 0, .int .i64 0] 36))
          clear hq
          go_wp2_with fail
          refine bodyPost_ret (v := .tuple #[.agg #[.int .i64 0, .int .i64 0], .bool false]) (by simp [results, Tryz.results59, go_sem, a0, a1, al, World.cell?_alloc_lt]) rfl ?_
          rw [HN.out]
          refine ⟨rfl, ?_⟩
          repeat (first | exact hb1 | refine setBN (by simp) ?_ | refine allocBN ?_ (by simp; omega))
        · cases hn : ndlB 1 a
          · have HN := Lib.hid (ndC_ndl (s := s) rfl HBD.out (by rw [hR1]; exact hn))
            have HV := Lib.hid (fun W : World => is_below hn (ValidNeedle_any 1 a W))
            clear hn
            clear hR hR1 hR2 h102
            go_enter Tryz.func59, Tryz.ntmps59
            go_wp2_with fail
            refine (HNUM.out _ (HD.out.below HBX.out)).mono ?_
            rintro e w1 ⟨rfl, hq⟩
            have hb1 := HBX.out.trans (hq.mono (by simp))
            obtain ⟨a0, a1, af0, af1, al⟩ := box2 (keep_fwd hq (alloc_at_ w (.cells #[.int .i64 0, .int .i64 0] 36)))
            have hx0 := keep_fwd hq (alloc_at_ w (.cells #[.int .i64 0, .int .i64 0] 36))
            clear hq
            have hb2 : Below w.heap.size w (w1.alloc (.cells #[.int .i64 1, .int .i64 a] 36)) := hb1.trans ((al1 _ _).mono hb1.size)
            have hx2 := keep_fwd (al1 w1 (.cells #[.int .i64 1, .int .i64 a] 36)) hx0
            have hx3 := alloc_at_ w1 (.cells #[.int .i64 1, .int .i64 a] 36)
            have HB2 := Lib.hid hb2
            have HX2 := Lib.hid hx2
            have HX3 := Lib.hid hx3
            clear hb2 hx2 hx3 hx0
            go_wp2_with fail
            clear a0 a1 af0 af1
            refine (HV.out _).mono ?_
            rintro e w2 ⟨rfl, hq⟩
            have hb3 := HB2.out.trans (hq.mono HB2.out.size)
            obtain ⟨a0, a1, af0, af1, al2⟩ := box2 (keep_fwd hq HX2.out)
            obtain ⟨b0, b1, bf0, bf1, bl_⟩ := box2 (keep_fwd hq HX3.out)
            have hne : w1.heap.size ≠ w.heap.size := by omega
            clear hq
            go_wp2_with fail
            refine bodyPost_ret (v := .tuple #[.agg #[.int .i64 0, .int .i64 0], .bool false]) (by simp [results, Tryz.results59, go_sem, a0, a1]) rfl ?_
            rw [HN.out]
            refine ⟨rfl, ?_⟩
            repeat (first | exact hb3 | refine setBN (by simp) ?_)
          · have HN : Hid (ndC s = (1, a, true)) := Lib.hid (by have := ndC_yes (s := s) rfl HBD.out hR2 (by rw [hR1]; exact hn) (by rw [hR1]; exact nd_text h0 (.inl ⟨rfl, h102⟩) (by have := numC_true hR2; rw [hR1] at this; exact this.1)); rw [hR1] at this; exact this)
            have HV := Lib.hid (fun W : World => is_below hn (ValidNeedle_any 1 a W))
            clear hn
            clear hR hR1 hR2 h102
            go_enter Tryz.func59, Tryz.ntmps59
            go_wp2_with fail
            refine (HNUM.out _ (HD.out.below HBX.out)).mono ?_
            rintro e w1 ⟨rfl, hq⟩
            have hb1 := HBX.out.trans (hq.mono (by simp))
            obtain ⟨a0, a1, af0, af1, al⟩ := box2 (keep_fwd hq (alloc_at_ w (.cells #[.int .i64 0, .int .i64 0] 36)))
            have hx0 := keep_fwd hq (alloc_at_ w (.cells #[.int .i64 0, .int .i64 0] 36))
            clear hq
            have hb2 : Below w.heap.size w (w1.alloc (.cells #[.int .i64 1, .int .i64 a] 36)) := hb1.trans ((al1 _ _).mono hb1.size)
            have hx2 := keep_fwd (al1 w1 (.cells #[.int .i64 1, .int .i64 a] 36)) hx0
            have hx3 := alloc_at_ w1 (.cells #[.int .i64 1, .int .i64 a] 36)
            have HB2 := Lib.hid hb2
            have HX2 := Lib.hid hx2
            have HX3 := Lib.hid hx3
            clear hb2 hx2 hx3 hx0
            go_wp2_with fail
            clear a0 a1 af0 af1
            refine (HV.out _).mono ?_
            rintro e w2 ⟨rfl, hq⟩
            have hb3 := HB2.out.trans (hq.mono HB2.out.size)
            obtain ⟨a0, a1, af0, af1, al2⟩ := box2 (keep_fwd hq HX2.out)
            obtain ⟨b0, b1, bf0, bf1, bl_⟩ := box2 (keep_fwd hq HX3.out)
            have hne : w1.heap.size ≠ w.heap.size := by omega
            clear hq
            go_wp2_with fail
            refine bodyPost_ret (v := .tuple #[.agg #[.int .i64 1, .int .i64 a], .bool true]) (by simp [results, Tryz.results59, go_sem, a0, a1]) rfl ?_
            rw [HN.out]
            refine ⟨rfl, ?_⟩
            repeat (first | exact hb3 | refine setBN (by simp) ?_)
      · have HN := Lib.hid (ndC_txt (s := s) rfl (b := 1) (by rw [hdBT_eq h0, if_neg h98]) (nd_head h0 h102))
        have c1 : ((s[0].toNat : Int) == 98) = false := by
          rw [beq_eq_false_iff_ne]
          intro q
          exact h98 (UInt8.toNat_inj.1 (by have : (98 : UInt8).toNat = 98 := rfl; omega))
        have c2 : ((s[0].toNat : Int) == 102) = false := by
          rw [beq_eq_false_iff_ne]
          intro q
          exact h102 (UInt8.toNat_inj.1 (by have : (102 : UInt8).toNat = 102 := rfl; omega))
        have c3 : ¬ ((s[0].toNat : Int) = 98) := by simpa using c1
        have c4 : ¬ ((s[0].toNat : Int) = 102) := by simpa using c2
        clear h98 h102
        go_enter Tryz.func59, Tryz.ntmps59
        go_wp2_with fail
        refine bodyPost_ret (v := .tuple #[.agg #[.int .i64 0, .int .i64 0], .bool false]) (by simp [results, Tryz.results59, go_sem]) rfl ?_
        rw [HN.out]
        exact ⟨rfl, HBX.out⟩
end Go.Proofs.YtgmppfhokfifgaaGreatDoor
