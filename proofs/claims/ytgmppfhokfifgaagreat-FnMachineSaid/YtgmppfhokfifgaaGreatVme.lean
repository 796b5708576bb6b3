/-
  Contracts: the program's needles, live, LiveLoops. Printed by gen_vme.py.
-/
import Derived.Test.YtgmppfhokfifgaaGreatVmd
import Derived.IntWalk
namespace Go.Proofs.YtgmppfhokfifgaaGreat
set_option maxRecDepth 10000
open Go.RowKit

def ndF (m : Mac) (x : Int) : List (List Int) := if inR x 0 (m.wd - 1) then [[1, x]] else []
def ndK (m : Mac) (x : Int) : List (List Int) := if inR (x - m.rk) 0 (m.wd - 1) then [[2, x - m.rk]] else []
def ndUp (m : Mac) : Nat → List (List Int)
  | 0 => []
  | k + 1 => ndUp m k ++ (ndF m ((k : Int) - 3) ++ ndK m ((k : Int) - 3))
theorem ndF_yes {m : Mac} {x : Int} (h : inR x 0 (m.wd - 1) = true) : ndF m x = [[1, x]] := by simp [ndF, h]
theorem ndF_no {m : Mac} {x : Int} (h : inR x 0 (m.wd - 1) = false) : ndF m x = [] := by simp [ndF, h]
theorem ndK_yes {m : Mac} {x : Int} (h : inR (x - m.rk) 0 (m.wd - 1) = true) : ndK m x = [[2, x - m.rk]] := by simp [ndK, h]
theorem ndK_no {m : Mac} {x : Int} (h : inR (x - m.rk) 0 (m.wd - 1) = false) : ndK m x = [] := by simp [ndK, h]
theorem ndUp_len (m : Mac) (k : Nat) : (ndUp m k).length ≤ 2 * k := by
  induction k with
  | zero => simp [ndUp]
  | succ k ih =>
    have h1 : (ndF m ((k : Int) - 3)).length ≤ 1 := by unfold ndF; split <;> simp
    have h2 : (ndK m ((k : Int) - 3)).length ≤ 1 := by unfold ndK; split <;> simp
    simp only [ndUp, List.length_append]
    omega
theorem ndUp_ok (m : Mac) (k : Nat) : ∀ q ∈ ndUp m k, m.ndl (gi q 0) (gi q 1) := by
  induction k with
  | zero => simp [ndUp]
  | succ k ih =>
    intro q hq
    simp only [ndUp, List.mem_append] at hq
    rcases hq with hq | hq | hq
    · exact ih q hq
    · cases h : inR ((k : Int) - 3) 0 (m.wd - 1)
      · rw [ndF_no h] at hq; cases hq
      · rw [ndF_yes h] at hq; simp at hq; subst hq; have := inR_iff.1 h; exact ⟨.inl rfl, by simp [gi]; omega, by simp [gi]; omega⟩
    · cases h : inR ((k : Int) - 3 - m.rk) 0 (m.wd - 1)
      · rw [ndK_no h] at hq; cases hq
      · rw [ndK_yes h] at hq; simp at hq; subst hq; have := inR_iff.1 h; exact ⟨.inr rfl, by simp [gi]; omega, by simp [gi]; omega⟩
def livN (m : Mac) (ns : List (List Int)) : List Int := (ns.map fun q => m.on (gi q 0) (gi q 1)).flatten
theorem livN_app (m : Mac) (a b : List (List Int)) : livN m (a ++ b) = livN m a ++ livN m b := by simp [livN]
theorem livN_take (m : Mac) {ns : List (List Int)} {k : Nat} (h : k < ns.length) : livN m (ns.take (k + 1)) = livN m (ns.take k) ++ m.on (gi (gl ns k) 0) (gi (gl ns k) 1) := by
  rw [List.take_succ_eq_append_getElem h, livN_app, gl_eq h]; simp [livN]
theorem livN_up (m : Mac) (k : Nat) : livN m (ndUp m k) = liveUp m k := by
  induction k with
  | zero => simp [ndUp, livN, liveUp]
  | succ k ih =>
    have e1 : livN m (ndF m ((k : Int) - 3)) = liveF m ((k : Int) - 3) := by unfold ndF liveF; split <;> simp [livN, gi]
    have e2 : livN m (ndK m ((k : Int) - 3)) = liveK m ((k : Int) - 3) := by unfold ndK liveK; split <;> simp [livN, gi]
    simp only [ndUp, liveUp, livN_app, ih, e1, e2]
theorem livN_len {m : Mac} (h : OkM m) (ns : List (List Int)) (hn : ∀ q ∈ ns, m.ndl (gi q 0) (gi q 1)) : (livN m ns).length ≤ 4 * ns.length := by
  induction ns with
  | nil => simp [livN]
  | cons q l ih =>
    have h1 := ih fun x hx => hn x (by simp [hx])
    have h2 := on_len h (hn q (by simp))
    have e : livN m (q :: l) = m.on (gi q 0) (gi q 1) ++ livN m l := by simp [livN]
    rw [e, List.length_append, List.length_cons]; omega
theorem ndl_info : (Tryz.prog.info? 36).map (fun i => (i.zero, i.size, i.bytes)) = some (some (.agg #[.int .i64 0, .int .i64 0]), 2, 16) := by kernel_rfl
theorem OwT.emptyN (s : Nat) (e : TypeId) (w : World) : OwT s e (w.alloc (.cells #[] e)) w.heap.size (w.alloc (.cells #[] e)).heap.size (.slice (some ⟨w.heap.size, 0, none⟩) 0 0) [] := ⟨OwR.empty e s w, by simp⟩
theorem wpList_append_ndl {ops : Array Oper} {rest : List Oper} {o : Oper} {a : Act} {Q : Exit → Act → World → Prop} (hgd : o.guard = none) (s x : Operand)
    (ho : o.op = .call { callee := .builtin .append, args := #[s, x], argTypes := #[100, 100] })
    (w : World) (lo hi : Nat) (v : Value) (os : List (List Int)) (a0 a1 : Int) (hs : a.eval s = v) (g0 : Nat) (hx : a.eval x = .slice (some ⟨g0, 0, none⟩) 1 1) (hg0 : g0 = w.heap.size)
    (hown : OwT 2 36 w lo hi v os) (hlo : lo ≤ w.heap.size) (hlen : os.length ≤ 1000000)
    (h : ∀ v' w', OwT 2 36 w' lo w'.heap.size v' (os ++ [[a0, a1]]) → w.grownBy w' v.ownBlock → wpList Tryz.prog ops Q rest (a.put o.dst v') w') :
    wpList Tryz.prog ops Q (o :: rest) a (w.alloc (.cells #[.int .i64 a0, .int .i64 a1] 36)) := by
  subst hg0
  refine wpList_append_elem Tryz.underlying100 ndl_info rfl (by omega) (by omega) hgd s x ho w lo hi v os.length (vals os.flatten) [.int .i64 a0, .int .i64 a1] hs hx hown.1 hlo (by omega) rfl (by simp [Value.oneCell']) ?_
  intro v' w' h1 h2 _
  refine h v' w' ⟨?_, fun q hq => ?_⟩ h2
  · have e : vals (os ++ [[a0, a1]]).flatten = vals os.flatten ++ [.int .i64 a0, .int .i64 a1] := by simp [vals]
    rw [e, List.length_append]
    exact h1
  · rcases List.mem_append.1 hq with hq | hq
    · exact hown.2 q hq
    · simp only [List.mem_singleton] at hq
      subst hq
      rfl
set_option maxRecDepth 100000 in
set_option maxHeartbeats 6400000 in
theorem needles_any {f b c l d : Value} {m : Mac} {g : Nat} {w : World} (hx : w.heap[g]? = some (.cells #[.int .i64 m.wd, .int .i64 m.rk, f, b, c, l, d] 31)) (ho : OkM m) :
    Calls Tryz.prog 60 #[.pointer (some ⟨g, 0, none⟩)] w fun e w' => ∃ r, e = .returned r ∧ OwT 2 36 w' w.heap.size w'.heap.size r (ndUp m (m.wd + 6).toNat) ∧ Below w.heap.size w w' := by
  obtain ⟨r0, r1⟩ := ho.rk
  obtain ⟨d0, d1⟩ := ho.wd
  have hO0 := OwT.emptyN 2 36 w
  have hb0 := al1 w (.cells #[] 36)
  have X := Lib.hid hx
  have hgl := heap_lt hx
  obtain ⟨W, hW⟩ : ∃ W : Nat, m.wd = W := ⟨m.wd.toNat, by omega⟩
  have HW := Lib.hid hW
  have hWl : m.wd ≤ W := by omega
  have hWg : (W : Int) ≤ m.wd := by omega
  clear hx ho hW
  go_enter Tryz.func60, Tryz.ntmps60
  go_wp2
  go_loopw [3, 4] (fun v x wr => ∃ k : Nat, k ≤ W + 6 ∧ x = .int .i64 ((k : Int) - 3) ∧ OwT 2 36 wr w.heap.size wr.heap.size v (ndUp m k) ∧ Below w.heap.size w wr) (fun _ x _ => ((W : Int) + 3 - intOf x).toNat)
  case atStart => exact ⟨0, Nat.zero_le _, rfl, hO0, hb0⟩
  case round =>
    obtain ⟨k, hk, rfl, hOw, hb⟩ := hrel
    clear hO0 hb0
    have HB := Lib.hid hb
    have HOW := Lib.hid hOw
    have hz := hb.size
    have XR := Lib.hid (keep_fwd hb X.out)
    clear hb hOw
    obtain ⟨⟨p0, p1, -, -, -, -, -⟩, -, -⟩ := box7 XR.out
    by_cases hlt : k < W + 6
    · have hltI : (k : Int) - 3 < m.wd + 3 := by omega
      have HST : Hid (ndUp m (k + 1) = ndUp m k ++ (ndF m ((k : Int) - 3) ++ ndK m ((k : Int) - 3))) := Lib.hid rfl
      have hlen := ndUp_len m k
      have hl2 : (ndUp m k).length ≤ 1000 := by omega
      have hx0 : -3 ≤ (k : Int) - 3 := by omega
      have hx1 : (k : Int) - 3 ≤ 26 := by omega
      have HNX : Hid ((k : Int) - 3 + 1 = ((k + 1 : Nat) : Int) - 3) := Lib.hid (by omega)
      have HME : Hid (((W : Int) + 3 - ((k : Int) - 3 + 1)).toNat < ((W : Int) + 3 - ((k : Int) - 3)).toNat) := Lib.hid (by omega)
      clear hlen
      generalize (k : Int) - 3 = X0 at *
      have hy0 : -6 ≤ X0 - m.rk := by omega
      have hy1 : X0 - m.rk ≤ 29 := by omega
      generalize ndUp m k = acc at *
      cases hF : inR X0 0 (m.wd - 1)
      · cases hK : inR (X0 - m.rk) 0 (m.wd - 1)
        · have HF := Lib.hid (ndF_no hF)
          have HK := Lib.hid (ndK_no hK)
          go_wp2_with fail
          (refine (is_same hF (within_any _ _ _ _)).mono ?_)
          rintro e w' ⟨rfl, rfl⟩
          go_wp2_with fail
          have w1r : IntKind.i64.wrap (X0 - m.rk) = X0 - m.rk := IntWalk.i64_in _ (by omega)
          have w2r : IntKind.i64.wrap (m.wd - 1) = m.wd - 1 := IntWalk.i64_in _ (by omega)
          go_quiet (first | (go_at_call 14; first | exact quiet_same_on (is_same hK (within_any _ _ _ _)) | exact quiet_same_at (is_same hK (within_any _ _ _ _)) | exact quiet_same (is_same hK (within_any _ _ _ _))))
          clear w1r w2r
          go_wp2_with fail
          go_roundw
          case rel => exact ⟨k + 1, by omega, by rw [← HNX.out], by rw [HST.out, HF.out, HK.out]; simpa using (show OwT 2 36 (wr.drewN nq) w.heap.size (wr.drewN nq).heap.size _ _ from HOW.out), (below_drewN HB.out _)⟩
          case measure => simp only [intOf]; exact HME.out
        · have HF := Lib.hid (ndF_no hF)
          have HK := Lib.hid (ndK_yes hK)
          go_wp2_with fail
          (refine (is_same hF (within_any _ _ _ _)).mono ?_)
          rintro e w' ⟨rfl, rfl⟩
          go_wp2_with fail
          have w1r : IntKind.i64.wrap (X0 - m.rk) = X0 - m.rk := IntWalk.i64_in _ (by omega)
          have w2r : IntKind.i64.wrap (m.wd - 1) = m.wd - 1 := IntWalk.i64_in _ (by omega)
          go_quiet (first | (go_at_call 14; first | exact quiet_same_on (is_same hK (within_any _ _ _ _)) | exact quiet_same_at (is_same hK (within_any _ _ _ _)) | exact quiet_same (is_same hK (within_any _ _ _ _))))
          clear w1r w2r
          have HBD := Lib.hid (below_drewN HB.out nq)
          have HOD := Lib.hid (show OwT 2 36 (wr.drewN nq) w.heap.size (wr.drewN nq).heap.size _ _ from HOW.out)
          have XD := Lib.hid (keep_fwd HBD.out X.out)
          generalize hWD : wr.drewN nq = wd at *
          have hzd := HBD.out.size
          clear hWD p0 p1
          obtain ⟨⟨p0, p1, -, -, -, -, -⟩, -, -⟩ := box7 XD.out
          go_wp2_with (at_builtin; refine wpList_append_ndl rfl _ _ rfl _ _ _ _ acc 2 (X0 - m.rk) rfl _ rfl rfl HOD.out hzd (by (try simp); omega) ?_; intro v2 w2 hO2 hg2; have HB2 := Lib.hid (HBD.out.trans (OwR.grown HOD.out.1 hg2 (Nat.le_refl _) hzd)); have HO2 := Lib.hid hO2; clear hO2 hg2 p0 p1)
          go_roundw
          case rel => exact ⟨k + 1, by omega, by rw [← HNX.out], by rw [HST.out, HF.out, HK.out]; simpa using HO2.out, HB2.out⟩
          case measure => simp only [intOf]; exact HME.out
      · cases hK : inR (X0 - m.rk) 0 (m.wd - 1)
        · have HF := Lib.hid (ndF_yes hF)
          have HK := Lib.hid (ndK_no hK)
          go_wp2_with fail
          (refine (is_same hF (within_any _ _ _ _)).mono ?_)
          rintro e w' ⟨rfl, rfl⟩
          go_wp2_with (at_builtin; refine wpList_append_ndl rfl _ _ rfl _ _ _ _ acc 1 X0 rfl _ rfl rfl HOW.out hz (by omega) ?_; intro v1 w1 hO1 hg1; have HB1 := Lib.hid (HB.out.trans (OwR.grown HOW.out.1 hg1 (Nat.le_refl _) hz)); have HO1 := Lib.hid hO1; have hz1 := HB1.out.size; have XR1 := Lib.hid (keep_fwd HB1.out X.out); clear hO1 hg1 p0 p1; obtain ⟨⟨p0, p1, -, -, -, -, -⟩, -, -⟩ := box7 XR1.out)
          have w1r : IntKind.i64.wrap (X0 - m.rk) = X0 - m.rk := IntWalk.i64_in _ (by omega)
          have w2r : IntKind.i64.wrap (m.wd - 1) = m.wd - 1 := IntWalk.i64_in _ (by omega)
          go_quiet (first | (go_at_call 14; first | exact quiet_same_on (is_same hK (within_any _ _ _ _)) | exact quiet_same_at (is_same hK (within_any _ _ _ _)) | exact quiet_same (is_same hK (within_any _ _ _ _))))
          clear w1r w2r
          go_wp2_with fail
          go_roundw
          case rel => exact ⟨k + 1, by omega, by rw [← HNX.out], by rw [HST.out, HF.out, HK.out]; simpa using (show OwT 2 36 (w1.drewN nq) w.heap.size (w1.drewN nq).heap.size _ _ from HO1.out), (below_drewN HB1.out _)⟩
          case measure => simp only [intOf]; exact HME.out
        · have HF := Lib.hid (ndF_yes hF)
          have HK := Lib.hid (ndK_yes hK)
          go_wp2_with fail
          (refine (is_same hF (within_any _ _ _ _)).mono ?_)
          rintro e w' ⟨rfl, rfl⟩
          go_wp2_with (at_builtin; refine wpList_append_ndl rfl _ _ rfl _ _ _ _ acc 1 X0 rfl _ rfl rfl HOW.out hz (by omega) ?_; intro v1 w1 hO1 hg1; have HB1 := Lib.hid (HB.out.trans (OwR.grown HOW.out.1 hg1 (Nat.le_refl _) hz)); have HO1 := Lib.hid hO1; have hz1 := HB1.out.size; have XR1 := Lib.hid (keep_fwd HB1.out X.out); clear hO1 hg1 p0 p1; obtain ⟨⟨p0, p1, -, -, -, -, -⟩, -, -⟩ := box7 XR1.out)
          have w1r : IntKind.i64.wrap (X0 - m.rk) = X0 - m.rk := IntWalk.i64_in _ (by omega)
          have w2r : IntKind.i64.wrap (m.wd - 1) = m.wd - 1 := IntWalk.i64_in _ (by omega)
          go_quiet (first | (go_at_call 14; first | exact quiet_same_on (is_same hK (within_any _ _ _ _)) | exact quiet_same_at (is_same hK (within_any _ _ _ _)) | exact quiet_same (is_same hK (within_any _ _ _ _))))
          clear w1r w2r
          have HBD := Lib.hid (below_drewN HB1.out nq)
          have HOD := Lib.hid (show OwT 2 36 (w1.drewN nq) w.heap.size (w1.drewN nq).heap.size _ _ from HO1.out)
          have XD := Lib.hid (keep_fwd HBD.out X.out)
          generalize hWD : w1.drewN nq = wd at *
          have hzd := HBD.out.size
          clear hWD p0 p1
          obtain ⟨⟨p0, p1, -, -, -, -, -⟩, -, -⟩ := box7 XD.out
          go_wp2_with (at_builtin; refine wpList_append_ndl rfl _ _ rfl _ _ _ _ (acc ++ [[1, X0]]) 2 (X0 - m.rk) rfl _ rfl rfl HOD.out hzd (by (try simp); omega) ?_; intro v2 w2 hO2 hg2; have HB2 := Lib.hid (HBD.out.trans (OwR.grown HOD.out.1 hg2 (Nat.le_refl _) hzd)); have HO2 := Lib.hid hO2; clear hO2 hg2 p0 p1)
          go_roundw
          case rel => exact ⟨k + 1, by omega, by rw [← HNX.out], by rw [HST.out, HF.out, HK.out]; simpa using HO2.out, HB2.out⟩
          case measure => simp only [intOf]; exact HME.out
    · obtain rfl : k = W + 6 := by omega
      have hge : ¬ ((W + 6 : Nat) : Int) - 3 < m.wd + 3 := by omega
      have HT : Hid (ndUp m (m.wd + 6).toNat = ndUp m (W + 6)) := Lib.hid (by rw [HW.out]; rfl)
      go_wp2_with fail
      go_ret
      exact ⟨_, rfl, by rw [HT.out]; exact HOW.out, HB.out⟩
/-- Blocks from lo on and below hi are as they were; the row v lies elsewhere. -/
structure Apart (lo hi : Nat) (w2 wr : World) (v : Value) : Prop where
  own : ∀ g, v.ownBlock = some g → g < lo ∨ hi ≤ g
  same : ∀ j, lo ≤ j → j < hi → wr.heap[j]? = w2.heap[j]?
  size : hi ≤ wr.heap.size
theorem Apart.below {lo hi : Nat} {w2 wr w' : World} {v : Value} (h : Apart lo hi w2 wr v) (hb : Below wr.heap.size wr w') : Apart lo hi w2 w' v :=
  ⟨h.own, fun j h1 h2 => (hb.block j (by have := h.size; omega)).trans (h.same j h1 h2), Nat.le_trans h.size hb.size⟩
theorem Apart.grown {lo hi : Nat} {w2 wr w' : World} {v v' : Value} (h : Apart lo hi w2 wr v) (hg : wr.grownBy w' v.ownBlock) (hn : v'.ownBlock = v.ownBlock ∨ ∀ g, v'.ownBlock = some g → wr.heap.size ≤ g) : Apart lo hi w2 w' v' := by
  have hs := h.size
  refine ⟨fun g hgv => ?_, fun j h1 h2 => (hg.block j (by omega) fun e => ?_).trans (h.same j h1 h2), Nat.le_trans hs hg.size⟩
  · rcases hn with e | e
    · exact h.own g (by rw [← e]; exact hgv)
    · have := e g hgv; omega
  · have := h.own j e.symm; omega
set_option maxRecDepth 100000 in
set_option maxHeartbeats 6400000 in
theorem live_any {f b c l d : Value} {m : Mac} {B g : Nat} {w : World} (h : SlM w B f b c l d m) (hB : B ≤ w.heap.size) (hx : w.heap[g]? = some (.cells #[.int .i64 m.wd, .int .i64 m.rk, f, b, c, l, d] 31)) (ho : OkM m) :
    Calls Tryz.prog 28 #[.pointer (some ⟨g, 0, none⟩)] w fun e w' => ∃ r, e = .returned r ∧ Ow w' w.heap.size w'.heap.size r (liveM m) ∧ Below w.heap.size w w' := by
  have hO0 := Ow.empty w
  have hb0 := al1 w (.cells #[] 2)
  have H := Lib.hid h
  have X := Lib.hid hx
  have HO := Lib.hid ho
  have HD := Lib.hid ho.wd
  clear h hx ho
  go_enter Tryz.func28, Tryz.ntmps28
  go_wp2_with fail
  generalize hW1 : w.alloc (.cells #[] 2) = w1 at *
  have hs0 : w.heap.size < w1.heap.size := by rw [← hW1]; simp
  clear hW1
  refine (needles_any (m := m) (keep_fwd hb0 X.out) HO.out).mono ?_
  rintro e w2 ⟨rn, rfl, hOn, hb2⟩
  have hz2 := hb2.size
  have HON := Lib.hid hOn
  obtain ⟨An, cn, rfl, hln, hmn, -, -⟩ := hOn.sl (B := w2.heap.size) (Nat.le_refl _)
  unfold maxLen at hmn
  have hbw := hb0.trans (hb2.mono (Nat.le_of_lt hs0))
  have hO2 := (hO0.below hb2 (Nat.le_refl _)).mono (Nat.le_refl _) hz2
  have hAp : Apart w1.heap.size w2.heap.size w2 w2 (.slice (some ⟨w.heap.size, 0, none⟩) 0 0) := ⟨fun g hg => by simp [Value.ownBlock] at hg; omega, fun _ _ _ => rfl, Nat.le_refl _⟩
  have HUP := Lib.hid (livN_up m (m.wd + 6).toNat)
  have HOKN := Lib.hid (ndUp_ok m (m.wd + 6).toNat)
  have HLN := Lib.hid (ndUp_len m (m.wd + 6).toNat)
  have HLV : Hid (liveM m = liveUp m (m.wd + 6).toNat) := Lib.hid rfl
  clear hOn hb0 hb2 hO0
  generalize ndUp m (m.wd + 6).toNat = ns at *
  have hns : ns.length ≤ 60 := by have := HLN.out; have := HD.out; omega
  go_wp2_with fail
  go_loopw [3, 10] (fun v i wr => ∃ k : Nat, k ≤ ns.length ∧ i = .int .i64 k ∧ Ow wr w.heap.size wr.heap.size v (livN m (ns.take k)) ∧ Apart w1.heap.size w2.heap.size w2 wr v ∧ Below w.heap.size w wr) (fun _ i _ => ns.length - (intOf i).toNat)
  case atStart => exact ⟨0, Nat.zero_le _, rfl, by simpa [livN] using hO2, hAp, hbw⟩
  case round =>
    obtain ⟨k, hk, rfl, hO, hA, hb⟩ := hrel
    have HA := Lib.hid hA
    have HO1 := Lib.hid hO
    have HB := Lib.hid hb
    have hz := hb.size
    clear hO2 hAp hbw hA hO hb
    by_cases hlt : k < ns.length
    · obtain ⟨A9, c9, e9, -, -, -, hcell⟩ := (HON.out.keep HA.out.same).sl (B := w2.heap.size) (Nat.le_refl _)
      simp only [Value.slice.injEq] at e9
      obtain ⟨rfl, -, rfl⟩ := e9
      obtain ⟨bn, off, rfl, hbn, hcc⟩ := hcell (by omega)
      have q0 := hcc k hlt 0 (by omega)
      have q1 := hcc k hlt 1 (by omega)
      rw [Nat.add_zero] at q0
      have hnd := HOKN.out (gl ns k) (gl_mem hlt)
      have HTK := Lib.hid (livN_take m hlt)
      have hll := livN_len HO.out (ns.take k) fun q hq => HOKN.out q (List.mem_of_mem_take hq)
      have hll2 : (livN m (ns.take k)).length ≤ 1000 := by rw [List.length_take] at hll; omega
      obtain ⟨p, o, cp, Ap, cu, ef, lf, a0, a1, row⟩ := H.out.rowAt hB HO.out hnd
      have hnd1 := hnd.1
      have HND := Lib.hid hnd1
      have EF := Lib.hid ef
      have ROW := Lib.hid row
      have hsz := HA.out.size
      clear hcell hcc hnd hnd1 hll ef row
      generalize gi (gl ns k) 0 = be at *
      generalize gi (gl ns k) 1 = ae at *
      generalize livN m (ns.take k) = acc at *
      have HX1 := Lib.hid (alloc_keep (keep_fwd HB.out X.out) (.cells #[.int .i64 be, .int .i64 ae] 36))
      have HB1 := Lib.hid (HB.out.trans ((al1 wr (.cells #[.int .i64 be, .int .i64 ae] 36)).mono hz))
      have HAl := Lib.hid (al1 wr (.cells #[.int .i64 be, .int .i64 ae] 36))
      have hbw : bn < wr.heap.size := by omega
      go_wp2_with fail
      refine (on_any (k := ae.toNat) HX1.out HND.out (by omega) (by omega) EF.out).mono ?_
      rintro e w5 ⟨rfl, hb5⟩
      have HB5 := Lib.hid (HB1.out.trans (hb5.mono (by simp; omega)))
      have HBr := Lib.hid (HAl.out.trans (hb5.mono (by simp)))
      obtain ⟨cR, sR⟩ := ROW.out w5 HB5.out
      have SR := Lib.hid sR
      have HOr := Lib.hid ((HO1.out.below HBr.out (Nat.le_refl _)).mono (Nat.le_refl _) HBr.out.size)
      have hz5 := HB5.out.size
      clear hb5 sR q0 q1
      go_wp2_with (at_builtin; refine wpList_append_list rfl _ _ rfl _ _ _ _ _ _ acc (m.on be ae) rfl rfl HOr.out SR.out hz5 (by omega) ?_; intro v6 w6 hO6 hg6 hn6; have HB6 := Lib.hid (HB5.out.trans (HOr.out.grown hg6 (Nat.le_refl _) hz5)); have HO6 := Lib.hid hO6; have HA6 := Lib.hid ((HA.out.below HBr.out).grown hg6 hn6); clear hO6 hg6 hn6 cR)
      go_roundw
      case rel => exact ⟨k + 1, by omega, by go_num, by rw [HTK.out]; exact HO6.out, HA6.out, HB6.out⟩
      case measure => simp [intOf]; omega
    · obtain rfl : k = ns.length := by omega
      have HT : Hid (livN m (ns.take ns.length) = liveM m) := Lib.hid (by rw [List.take_length, HUP.out, HLV.out])
      go_wp2_with fail
      go_ret
      exact ⟨_, rfl, by rw [← HT.out]; exact HO1.out, HB.out⟩
set_option maxHeartbeats 1600000 in
theorem impl_LiveLoops_any {f b c l d : Value} {m : Mac} {B : Nat} {w : World} (h : SlM w B f b c l d m) (hB : B ≤ w.heap.size) :
    Calls Tryz.prog 11 #[.agg #[.int .i64 m.wd, .int .i64 m.rk, f, b, c, l, d]] w fun e w' => ∃ r, e = .returned (.tuple #[r, .int .i64 (llC m)]) ∧ Ow w' w.heap.size w'.heap.size r (llL m) ∧ Below w.heap.size w w' := by
  have ha := al1 w (.cells #[.int .i64 m.wd, .int .i64 m.rk, f, b, c, l, d] 31)
  have H := Lib.hid (h.below ha hB)
  have HH := Lib.hid h
  have HA := Lib.hid ha
  have X := Lib.hid (alloc_at_ w (.cells #[.int .i64 m.wd, .int .i64 m.rk, f, b, c, l, d] 31))
  clear ha h
  cases hok : okM m
  · have HT := Lib.hid (ll_no hok)
    go_enter Tryz.func11, Tryz.ntmps11
    go_wp2_with (go_at_call 10; (refine (is_below hok (ValidMachine_any H.out (by simp; omega))).mono ?_); rintro e w3 ⟨rfl, hb3⟩)
    go_ret2
    exact ⟨_, by rw [HT.out.2]; rfl, by rw [HT.out.1]; exact Ow.nil _ _ _, HA.out.trans (hb3.mono (by simp))⟩
  · have HT := Lib.hid (ll_yes hok)
    go_enter Tryz.func11, Tryz.ntmps11
    go_wp2_with fail
    (refine (is_below hok (ValidMachine_any H.out (by simp; omega))).mono ?_)
    rintro e w3 ⟨rfl, hb3⟩
    have HB3 := Lib.hid (HA.out.trans (hb3.mono (by simp)))
    have X3 := Lib.hid (keep_fwd hb3 X.out)
    have hz3 := HB3.out.size
    clear hb3
    go_wp2_with (go_at_call 28; (refine (live_any (HH.out.below HB3.out hB) (Nat.le_trans hB hz3) X3.out (okM_iff.1 hok)).mono ?_); rintro e w4 ⟨r, rfl, ho4, hb4⟩; have HO4 := Lib.hid ho4; have HB4 := Lib.hid hb4; clear ho4 hb4)
    go_ret2
    exact ⟨_, by rw [HT.out.2]; rfl, by rw [HT.out.1]; exact HO4.out.mono hz3 (Nat.le_refl _), HB3.out.trans (HB4.out.mono hz3)⟩
end Go.Proofs.YtgmppfhokfifgaaGreat
