/-
  Contracts: the reference's l07Live, LiveLoops. Printed by gen_vmd.py.
-/
import Derived.Test.YtgmppfhokfifgaaGreatDoorGvm
namespace Go.Proofs.YtgmppfhokfifgaaGreatDoor
set_option maxRecDepth 10000
open Go.RowKit

def liveF (m : Mac) (x : Int) : List Int := if inR x 0 (m.wd - 1) then m.on 1 x else []
def liveK (m : Mac) (x : Int) : List Int := if inR (x - m.rk) 0 (m.wd - 1) then m.on 2 (x - m.rk) else []
def liveUp (m : Mac) : Nat → List Int
  | 0 => []
  | k + 1 => liveUp m k ++ (liveF m ((k : Int) - 3) ++ liveK m ((k : Int) - 3))
def liveM (m : Mac) : List Int := liveUp m (m.wd + 6).toNat
theorem liveF_yes {m : Mac} {x : Int} (h : inR x 0 (m.wd - 1) = true) : liveF m x = m.on 1 x := by simp [liveF, h]
theorem liveF_no {m : Mac} {x : Int} (h : inR x 0 (m.wd - 1) = false) : liveF m x = [] := by simp [liveF, h]
theorem liveK_yes {m : Mac} {x : Int} (h : inR (x - m.rk) 0 (m.wd - 1) = true) : liveK m x = m.on 2 (x - m.rk) := by simp [liveK, h]
theorem liveK_no {m : Mac} {x : Int} (h : inR (x - m.rk) 0 (m.wd - 1) = false) : liveK m x = [] := by simp [liveK, h]
theorem liveF_len {m : Mac} (h : OkM m) (x : Int) : (liveF m x).length ≤ 4 := by
  cases e : inR x 0 (m.wd - 1)
  · rw [liveF_no e]; simp
  · rw [liveF_yes e]; have := inR_iff.1 e; exact on_len h ⟨.inl rfl, by omega, by omega⟩
theorem liveK_len {m : Mac} (h : OkM m) (x : Int) : (liveK m x).length ≤ 4 := by
  cases e : inR (x - m.rk) 0 (m.wd - 1)
  · rw [liveK_no e]; simp
  · rw [liveK_yes e]; have := inR_iff.1 e; exact on_len h ⟨.inr rfl, by omega, by omega⟩
theorem liveUp_len {m : Mac} (h : OkM m) (k : Nat) : (liveUp m k).length ≤ 8 * k := by
  induction k with
  | zero => simp [liveUp]
  | succ k ih =>
    have := liveF_len h ((k : Int) - 3)
    have := liveK_len h ((k : Int) - 3)
    simp only [liveUp, List.length_append]
    omega
/-- The row on one of a machine's needles, at the entry's world and later ones. -/
theorem SlM.rowAt {w : World} {B : Nat} {f b c l d : Value} {m : Mac} (h : SlM w B f b c l d m) (hB : B ≤ w.heap.size) (ho : OkM m) {bed a : Int} (hn : m.ndl bed a) :
    ∃ p o cap A cu, (if bed = 2 then b else f) = .slice (some ⟨p, o, none⟩) (m.sd bed).length cap ∧ (m.on bed a).length ≤ 4 ∧ 0 ≤ a ∧ a < ((m.sd bed).length : Int) ∧
      ∀ w', Below w.heap.size w w' → w'.cell? ⟨p, o + a.toNat, none⟩ = some (.slice A (m.on bed a).length cu) ∧ Sl w' B (.slice A (m.on bed a).length cu) (m.on bed a) := by
  have hs := ho.sdlt hn
  obtain ⟨p, o, n, cap, u, e1, e2, hu, hsu⟩ := h.at_ hs
  obtain ⟨A, cu, rfl, -⟩ := id hsu
  subst e2
  refine ⟨p, o, cap, A, cu, e1, on_len ho hn, hn.2.1, by have := hn.2.1; omega, fun w' hb => ⟨?_, hsu.below hb hB⟩⟩
  rw [hb.cell (block_lt_of_cell hu)]; exact hu
set_option maxRecDepth 100000 in
set_option maxHeartbeats 6400000 in
theorem l07Live_any {f b c l d : Value} {m : Mac} {B g : Nat} {w : World} (h : SlM w B f b c l d m) (hB : B ≤ w.heap.size) (hx : w.heap[g]? = some (.cells #[.int .i64 m.wd, .int .i64 m.rk, f, b, c, l, d] 75)) (ho : OkM m) :
    Calls Tryz.prog 83 #[.pointer (some ⟨g, 0, none⟩)] w fun e w' => ∃ r, e = .returned r ∧ Ow w' w.heap.size w'.heap.size r (liveM m) ∧ Below w.heap.size w w' := by
  obtain ⟨r0, r1⟩ := ho.rk
  obtain ⟨d0, d1⟩ := ho.wd
  have hO0 := Ow.empty w
  have hb0 := al1 w (.cells #[] 2)
  have H := Lib.hid h
  have X := Lib.hid hx
  have HO := Lib.hid ho
  have hgl := heap_lt hx
  obtain ⟨W, hW⟩ : ∃ W : Nat, m.wd = W := ⟨m.wd.toNat, by omega⟩
  have HW := Lib.hid hW
  have hWl : m.wd ≤ W := by omega
  have hWg : (W : Int) ≤ m.wd := by omega
  clear h hx ho hW
  go_enter Tryz.func83, Tryz.ntmps83
  go_wp2
  go_loopw [3, 4] (fun v x wr => ∃ k : Nat, k ≤ W + 6 ∧ x = .int .i64 ((k : Int) - 3) ∧ Ow wr w.heap.size wr.heap.size v (liveUp m k) ∧ Below w.heap.size w wr) (fun _ x _ => ((W : Int) + 3 - intOf x).toNat)
  case atStart => exact ⟨0, Nat.zero_le _, rfl, hO0, hb0⟩
  case round =>
    obtain ⟨k, hk, rfl, hOw, hb⟩ := hrel
    clear hO0 hb0
    have HB := Lib.hid hb
    have HOW := Lib.hid hOw
    have hz := hb.size
    have XR := Lib.hid (keep_fwd hb X.out)
    clear hb hOw
    obtain ⟨⟨p0, p1, p2, p3, -, -, -⟩, -, -⟩ := box7 XR.out
    by_cases hlt : k < W + 6
    · have hltI : (k : Int) - 3 < m.wd + 3 := by omega
      have HST : Hid (liveUp m (k + 1) = liveUp m k ++ (liveF m ((k : Int) - 3) ++ liveK m ((k : Int) - 3))) := Lib.hid rfl
      have hlen := liveUp_len HO.out k
      have hl2 : (liveUp m k).length ≤ 1000000 := by omega
      have hx0 : -3 ≤ (k : Int) - 3 := by omega
      have hx1 : (k : Int) - 3 ≤ 26 := by omega
      have HNX : Hid ((k : Int) - 3 + 1 = ((k + 1 : Nat) : Int) - 3) := Lib.hid (by omega)
      have HME : Hid (((W : Int) + 3 - ((k : Int) - 3 + 1)).toNat < ((W : Int) + 3 - ((k : Int) - 3)).toNat) := Lib.hid (by omega)
      clear hlen
      generalize (k : Int) - 3 = X0 at *
      have hy0 : -6 ≤ X0 - m.rk := by omega
      have hy1 : X0 - m.rk ≤ 29 := by omega
      generalize liveUp m k = acc at *
      cases hF : inR X0 0 (m.wd - 1)
      · cases hK : inR (X0 - m.rk) 0 (m.wd - 1)
        · have HF := Lib.hid (liveF_no hF)
          have HK := Lib.hid (liveK_no hK)
          go_wp2_with fail
          (refine (is_same hF (l00In_any _ _ _ _)).mono ?_)
          rintro e w' ⟨rfl, rfl⟩
          go_wp2_with fail
          (refine (is_same hK (l00In_any _ _ _ _)).mono ?_)
          rintro e w' ⟨rfl, rfl⟩
          go_wp2_with fail
          go_roundw
          case rel => exact ⟨k + 1, by omega, by rw [← HNX.out], by rw [HST.out, HF.out, HK.out]; simpa using HOW.out, HB.out⟩
          case measure => simp only [intOf]; exact HME.out
        · have HF := Lib.hid (liveF_no hF)
          have HK := Lib.hid (liveK_yes hK)
          have q2 := inR_iff.1 hK
          obtain ⟨pk, ok, ck, Ak, uk, ek, lk, j0, j1, rowK⟩ := H.out.rowAt hB HO.out (bed := 2) (a := X0 - m.rk) ⟨.inr rfl, by omega, by omega⟩
          rw [if_pos rfl] at ek
          have EK := Lib.hid ek
          have ROWK := Lib.hid rowK
          clear q2 ek rowK
          go_wp2_with fail
          (refine (is_same hF (l00In_any _ _ _ _)).mono ?_)
          rintro e w' ⟨rfl, rfl⟩
          go_wp2_with fail
          (refine (is_same hK (l00In_any _ _ _ _)).mono ?_)
          rintro e w' ⟨rfl, rfl⟩
          rw [EK.out] at p3
          obtain ⟨cK, sK⟩ := ROWK.out wr HB.out
          have SK := Lib.hid sK
          clear sK
          go_wp2_with (at_builtin; refine wpList_append_list rfl _ _ rfl _ _ _ _ _ _ acc (m.on 2 (X0 - m.rk)) rfl rfl HOW.out SK.out hz (by (try rw [List.length_append]); omega) ?_; intro v2 w2 hO2 hg2 _; have HB2 := Lib.hid (HB.out.trans (HOW.out.grown hg2 (Nat.le_refl _) hz)); have HO2 := Lib.hid hO2; clear hO2 hg2 p0 p1 p2 p3 cK)
          go_roundw
          case rel => exact ⟨k + 1, by omega, by rw [← HNX.out], by rw [HST.out, HF.out, HK.out]; simpa using HO2.out, HB2.out⟩
          case measure => simp only [intOf]; exact HME.out
      · cases hK : inR (X0 - m.rk) 0 (m.wd - 1)
        · have HF := Lib.hid (liveF_yes hF)
          have HK := Lib.hid (liveK_no hK)
          have q1 := inR_iff.1 hF
          obtain ⟨pf, of_, cf, Af, uf, ef, lf, i0, i1, rowF⟩ := H.out.rowAt hB HO.out (bed := 1) (a := X0) ⟨.inl rfl, by omega, by omega⟩
          rw [if_neg (by omega)] at ef
          have EF := Lib.hid ef
          have ROWF := Lib.hid rowF
          clear q1 ef rowF
          go_wp2_with fail
          (refine (is_same hF (l00In_any _ _ _ _)).mono ?_)
          rintro e w' ⟨rfl, rfl⟩
          rw [EF.out] at p2
          obtain ⟨cF, sF⟩ := ROWF.out wr HB.out
          have SF := Lib.hid sF
          clear sF
          go_wp2_with (at_builtin; refine wpList_append_list rfl _ _ rfl _ _ _ _ _ _ acc (m.on 1 X0) rfl rfl HOW.out SF.out hz (by omega) ?_; intro v1 w1 hO1 hg1 _; have HB1 := Lib.hid (HB.out.trans (HOW.out.grown hg1 (Nat.le_refl _) hz)); have HO1 := Lib.hid hO1; have hz1 := HB1.out.size; have XR1 := Lib.hid (keep_fwd HB1.out X.out); clear hO1 hg1 p0 p1 p2 p3 cF; obtain ⟨⟨p0, p1, p2, p3, -, -, -⟩, -, -⟩ := box7 XR1.out)
          (refine (is_same hK (l00In_any _ _ _ _)).mono ?_)
          rintro e w' ⟨rfl, rfl⟩
          go_wp2_with fail
          go_roundw
          case rel => exact ⟨k + 1, by omega, by rw [← HNX.out], by rw [HST.out, HF.out, HK.out]; simpa using HO1.out, HB1.out⟩
          case measure => simp only [intOf]; exact HME.out
        · have HF := Lib.hid (liveF_yes hF)
          have HK := Lib.hid (liveK_yes hK)
          have q1 := inR_iff.1 hF
          obtain ⟨pf, of_, cf, Af, uf, ef, lf, i0, i1, rowF⟩ := H.out.rowAt hB HO.out (bed := 1) (a := X0) ⟨.inl rfl, by omega, by omega⟩
          rw [if_neg (by omega)] at ef
          have EF := Lib.hid ef
          have ROWF := Lib.hid rowF
          clear q1 ef rowF
          have q2 := inR_iff.1 hK
          obtain ⟨pk, ok, ck, Ak, uk, ek, lk, j0, j1, rowK⟩ := H.out.rowAt hB HO.out (bed := 2) (a := X0 - m.rk) ⟨.inr rfl, by omega, by omega⟩
          rw [if_pos rfl] at ek
          have EK := Lib.hid ek
          have ROWK := Lib.hid rowK
          clear q2 ek rowK
          go_wp2_with fail
          (refine (is_same hF (l00In_any _ _ _ _)).mono ?_)
          rintro e w' ⟨rfl, rfl⟩
          rw [EF.out] at p2
          obtain ⟨cF, sF⟩ := ROWF.out wr HB.out
          have SF := Lib.hid sF
          clear sF
          go_wp2_with (at_builtin; refine wpList_append_list rfl _ _ rfl _ _ _ _ _ _ acc (m.on 1 X0) rfl rfl HOW.out SF.out hz (by omega) ?_; intro v1 w1 hO1 hg1 _; have HB1 := Lib.hid (HB.out.trans (HOW.out.grown hg1 (Nat.le_refl _) hz)); have HO1 := Lib.hid hO1; have hz1 := HB1.out.size; have XR1 := Lib.hid (keep_fwd HB1.out X.out); clear hO1 hg1 p0 p1 p2 p3 cF; obtain ⟨⟨p0, p1, p2, p3, -, -, -⟩, -, -⟩ := box7 XR1.out)
          (refine (is_same hK (l00In_any _ _ _ _)).mono ?_)
          rintro e w' ⟨rfl, rfl⟩
          rw [EK.out] at p3
          obtain ⟨cK, sK⟩ := ROWK.out w1 HB1.out
          have SK := Lib.hid sK
          clear sK
          go_wp2_with (at_builtin; refine wpList_append_list rfl _ _ rfl _ _ _ _ _ _ (acc ++ m.on 1 X0) (m.on 2 (X0 - m.rk)) rfl rfl HO1.out SK.out hz1 (by (try rw [List.length_append]); omega) ?_; intro v2 w2 hO2 hg2 _; have HB2 := Lib.hid (HB1.out.trans (HO1.out.grown hg2 (Nat.le_refl _) hz1)); have HO2 := Lib.hid hO2; clear hO2 hg2 p0 p1 p2 p3 cK)
          go_roundw
          case rel => exact ⟨k + 1, by omega, by rw [← HNX.out], by rw [HST.out, HF.out, HK.out]; simpa using HO2.out, HB2.out⟩
          case measure => simp only [intOf]; exact HME.out
    · obtain rfl : k = W + 6 := by omega
      have hge : ¬ ((W + 6 : Nat) : Int) - 3 < m.wd + 3 := by omega
      have HT : Hid (liveM m = liveUp m (W + 6)) := Lib.hid (by unfold liveM; rw [HW.out]; rfl)
      go_wp2_with fail
      go_ret
      exact ⟨_, rfl, by rw [HT.out]; exact HOW.out, HB.out⟩
end Go.Proofs.YtgmppfhokfifgaaGreatDoor
