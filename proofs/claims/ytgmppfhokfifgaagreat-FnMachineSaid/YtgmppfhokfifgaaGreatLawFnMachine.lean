/-
  Proved here: for every input the law FnMachine returns true, and every argument reads behind the call as it read before. No condition.
-/
import Derived.Test.YtgmppfhokfifgaaGreatLvp
import Derived.Test.YtgmppfhokfifgaaGreatDrm
import Derived.Test.YtgmppfhokfifgaaGreatSts
import Derived.Test.YtgmppfhokfifgaaGreatGeq
import Derived.Test.YtgmppfhokfifgaaGreatVme
import Derived.Test.YtgmppfhokfifgaaGreatGvm
import Derived.Test.YtgmppfhokfifgaaGreatGmg
import Derived.Test.YtgmppfhokfifgaaGreatGmh
import Derived.ProofKit
import Derived.OpenShut
import Derived.ShutString
import Derived.ChangeOld
import Derived.Below
import Derived.Deep.RegionHeld3
import Derived.Deep.DeepCutAuto
namespace Go.Proofs.YtgmppfhokfifgaaGreat.fnMachine
set_option maxRecDepth 10000
open Go.ChangeShapes Go.WideShapes Go.ChangeAt Go.RowKit
set_option linter.unusedVariables false

theorem stepM_fiveF {m : Mac} (h : Five m.lp) (o : List Int) : Five (stepM m o).lp := by
  have mk : ∀ ps, Five (m.lp ++ [infoO o ps]) := fun ps q hq => by
    rcases List.mem_append.1 hq with hq | hq
    · exact h q hq
    · simp only [List.mem_singleton] at hq
      subst hq
      simp [infoO]
  unfold stepM
  split
  · rw [(put_parts _ _ _ _).2.2.2.1]; exact mk _
  · split
    · rw [(put_parts _ _ _ _).2.2.2.1]; exact mk _
    · split
      · rw [(put_parts _ _ _ _).2.2.2.1]
        show Five (((m.carried o).moved o).lp ++ [infoO o _])
        rw [(moved_parts _ _).2.2.2.1]; exact mk _
      · split
        · exact h
        · split
          · rw [(moved_parts _ _).2.2.2.1]; exact h
          · split
            · rw [(put_parts _ _ _ _).2.2.2.1]; exact h
            · split
              · exact h
              · split <;> exact h
theorem lenSS_leF {L : List (List Int)} {b : Nat} (h : ∀ xs ∈ L, xs.length ≤ b) : lenSS L ≤ b * L.length := by
  induction L with
  | nil => simp [lenSS]
  | cons a l ih =>
    have h1 := ih fun x hx => h x (by simp [hx])
    have h2 := h a (by simp)
    simp only [lenSS, List.length_cons, Nat.mul_add, Nat.mul_one]
    omega
theorem mac_small {m : Mac} (h : OkM m) : smallM m := by
  have a1 := lenSS_leF h.sf
  have a2 := lenSS_leF h.sb
  have a4 := h.drLen
  have b1 := h.fr
  have b2 := h.bk
  have b3 := h.wd
  unfold smallM
  omega
/-- The state of the loop over the operations. -/
structure MkL (w w1 : World) (n : Int) (g k : Nat) (M m : Mac) (os : List (List Int)) (S : Nat → Prop) (f b c l d : Value) (wr : World) : Prop where
  run : runL m k (os.drop k) = (M, (os.length : Int), 0)
  ok : OkM m
  used : Used m
  five : Five m.lp
  wd : m.wd = n
  own : OwM wr S f b c l d m
  out : ∀ j, S j → j ≠ g ∧ j < wr.heap.size
  bx : wr.heap[g]? = some (.cells #[.int .i64 m.wd, .int .i64 m.rk, f, b, c, l, d] 31)
  bel : Below w1.heap.size w1 wr
theorem os_ok {n : Int} {M m : Mac} {os : List (List Int)} (h : DrOk n M os) (hw : m.wd = n) {k : Nat} (hk : k < os.length) : OpOk m (gl os k) := by
  obtain ⟨-, a, b, c⟩ := h.ops _ (gl_mem hk)
  exact ⟨a, by rw [hw]; exact b, by rw [hw]; exact c⟩
theorem st_ok {m : Mac} {o : List Int} (h : OkM m) (ho : OpOk m o) (hc : codeM m o = 0) : stR m o = (stepM m o, 0) := by
  refine stR_ok ?_ hc
  rw [okM_iff.2 h, ho.op, fit_iff.2 ⟨ho.f1, ho.f2⟩]
  rfl
theorem hs_mac_boxF {w w' : World} {g : Nat} {cs : Array Value} {t : TypeId} {f b c l d : Value} {m : Mac} (hb : Below w.heap.size w w') (ho : Hs w' (g + 1) [mac_ f b c l d m]) (hg : w.heap.size ≤ g) (hx : w'.heap[g]? = some (.cells cs t)) :
    Hs w' w.heap.size [mac_ f b c l d m, bx_ g cs t] := by
  obtain ⟨S, hm, hS, -⟩ := ho.at_ [] _ []
  have hlt := heap_lt hx
  exact Hs.two (S' := fun k => k = g) hb.size hm ⟨rfl, hx⟩ (fun k hk => by have := hS k hk; omega) (fun k hk => by omega) (fun k hk e => by have := hS k hk; omega)
/-- All cells of a machine's box are set. -/
theorem hs_setBx7F {w : World} {lo : Nat} (L1 : List Itm) {g : Nat} {b0 b1 b2 b3 b4 b5 b6 : Value} {t : TypeId} (L2 : List Itm) (h : Hs w lo (L1 ++ bx_ g #[b0, b1, b2, b3, b4, b5, b6] t :: L2)) (a0 a1 a2 a3 a4 a5 a6 : Value) :
    Hs (((((((w.setCell ⟨g, 0, none⟩ a0).setCell ⟨g, 1, none⟩ a1).setCell ⟨g, 2, none⟩ a2).setCell ⟨g, 3, none⟩ a3).setCell ⟨g, 4, none⟩ a4).setCell ⟨g, 5, none⟩ a5).setCell ⟨g, 6, none⟩ a6) lo (L1 ++ bx_ g #[a0, a1, a2, a3, a4, a5, a6] t :: L2) := by
  obtain ⟨S, ⟨a, b⟩, c, hput⟩ := h.at_ L1 (bx_ g _ t) L2
  obtain ⟨e1, e2, e3, e4⟩ := box7_set a0 a1 a2 a3 a4 a5 a6 b
  have q := e4 g (Nat.le_refl _)
  exact hput (bx_ g #[a0, a1, a2, a3, a4, a5, a6] t) _ ⟨a, e1⟩ ⟨q.os, q.tape, q.output, q.size, fun j _ hj2 => e2 j fun e => hj2 (by rw [e]; exact a)⟩
/-- The sets of a machine's box change nothing below it. -/
theorem set7_belowF {w w' : World} {B g : Nat} {x0 x1 x2 x3 x4 x5 x6 : Value} (hg : B ≤ g) (h : Below B w w') :
    Below B w (((((((w'.setCell ⟨g, 0, none⟩ x0).setCell ⟨g, 1, none⟩ x1).setCell ⟨g, 2, none⟩ x2).setCell ⟨g, 3, none⟩ x3).setCell ⟨g, 4, none⟩ x4).setCell ⟨g, 5, none⟩ x5).setCell ⟨g, 6, none⟩ x6) :=
  setB hg (setB hg (setB hg (setB hg (setB hg (setB hg (setB hg h))))))
theorem okOps_ofF {n : Int} {os : List (List Int)} (h0 : 1 ≤ n) (h1 : n ≤ 24) (hl : os.length ≤ 1500) (h : ∀ o ∈ os, opB o = true ∧ gi o 3 < n ∧ gi o 5 < n) : okOps n os = true := by
  simp only [okOps, Bool.and_eq_true, decide_eq_true_eq, inR_iff, List.all_eq_true, fitB]
  exact ⟨⟨⟨h0, h1⟩, hl⟩, fun o ho => ⟨(h o ho).1, (h o ho).2.1, (h o ho).2.2⟩⟩
theorem drOk_okOpsF {n : Int} {M : Mac} {os : List (List Int)} (h : DrOk n M os) (hn : 2 ≤ n ∧ n ≤ 6) (hl : os.length ≤ 30) : okOps n os = true :=
  okOps_ofF (by omega) (by omega) (by omega) fun o ho => ⟨(h.ops o ho).2.1, (h.ops o ho).2.2.1, (h.ops o ho).2.2.2⟩
theorem sameM_self (m : Mac) : sameM m m = true := by simp [sameM]
theorem gb_set_at {bs : List Bool} {k : Nat} (h : k < bs.length) : gb (bs.set k true) k = true := by simp [gb, List.getD, h]
theorem gb_set_keep {bs : List Bool} {j : Nat} (k : Nat) (h : gb bs j = true) : gb (bs.set k true) j = true := by
  have hj : j < bs.length := by
    apply Classical.byContradiction
    intro q
    rw [gb, List.getD, List.getElem?_eq_none (by omega)] at h
    simp at h
  by_cases e : k = j
  · subst e; exact gb_set_at hj
  · simp only [gb, List.getD, List.getElem?_set, e, if_false] at h ⊢
    exact h
/-- The parents of the first loops are marked. -/
def MkU (m : Mac) (i : Nat) (bs : List Bool) : Prop := ∀ j, j < i → ∀ y ∈ (gl m.lp j).drop 5, gb bs y.toNat = true
theorem MkU.set {m : Mac} {i : Nat} {bs : List Bool} (h : MkU m i bs) (k : Nat) : MkU m i (bs.set k true) := fun j hj y hy => gb_set_keep k (h j hj y hy)
/-- These are marked. -/
def MkP (P : List Int) (bs : List Bool) : Prop := ∀ y ∈ P, gb bs y.toNat = true
theorem MkP.set {P : List Int} {bs : List Bool} (h : MkP P bs) (k : Nat) : MkP P (bs.set k true) := fun y hy => gb_set_keep k (h y hy)
theorem MkP.snoc {P : List Int} {bs : List Bool} {k : Nat} (h : MkP P bs) (hk : k < bs.length) : MkP (P ++ [(k : Int)]) (bs.set k true) := fun y hy => by
  rcases List.mem_append.1 hy with q | q
  · exact gb_set_keep k (h y q)
  · simp only [List.mem_singleton] at q
    subst q
    exact gb_set_at hk
theorem MkP.nil (bs : List Bool) : MkP [] bs := fun y hy => by cases hy
theorem MkU.step {m : Mac} {i : Nat} {bs : List Bool} (h : MkU m i bs) (h2 : MkP ((gl m.lp i).drop 5) bs) : MkU m (i + 1) bs := fun j hj y hy => by
  by_cases e : j = i
  · subst e; exact h2 y hy
  · exact h j (by omega) y hy
theorem mk_all {m : Mac} {bs : List Bool} (h : OkM m) (hu : Used m) (h1 : MkU m m.lp.length bs) (h2 : MkP m.dr bs) (h3 : MkP (liveM m) bs) {k : Nat} (hk : k < m.lp.length) : gb bs k = true := by
  rcases used_all h hu (x := (k : Int)) (by omega) (by omega) with ⟨l, hl, hx⟩ | hx | hx
  · obtain ⟨j, hj, rfl⟩ := List.getElem_of_mem hl
    rw [← gl_eq hj] at hx
    exact h1 j hj k hx
  · exact h2 k hx
  · exact h3 k hx
/-- The row of marks behind the blocks of wu. -/
structure UsT (wu wr : World) (L : Nat) (bs : List Bool) : Prop where
  len : bs.length = L
  own : ∃ hi, hi ≤ wr.heap.size ∧ OwB wr wu.heap.size hi (.slice (some ⟨wu.heap.size, 0, none⟩) L L) bs
  bel : Below wu.heap.size wu wr
theorem UsT.set {wu wr : World} {L : Nat} {bs : List Bool} (h : UsT wu wr L bs) {k : Nat} (hk : k < L) :
    wr.cell? ⟨wu.heap.size, k, none⟩ = some (.bool (gb bs k)) ∧ wr.frozen? ⟨wu.heap.size, k, none⟩ = false ∧ UsT wu (wr.setCell ⟨wu.heap.size, k, none⟩ (.bool true)) L (bs.set k true) := by
  obtain ⟨hl, ⟨hi, h1, ho⟩, hb⟩ := h
  obtain ⟨g, cap, hv, -, -, q8, q9, hO, hch⟩ := ho.set_ k (by omega) true
  obtain rfl : wu.heap.size = g := by injection hv with hv _ _; injection hv with hv; injection hv
  exact ⟨q8, q9, by simpa using hl, ⟨hi, by have := hch.size; omega, hO⟩, hb.trans (hch.below (Nat.le_refl _) hb.size)⟩
theorem UsT.lt {wu wr : World} {L : Nat} {bs : List Bool} (h : UsT wu wr L bs) (h0 : 0 < L) : wu.heap.size < wr.heap.size := block_lt_of_cell (h.set h0).1
theorem par_rng {m : Mac} (h : OkM m) {k : Nat} (hk : k < m.lp.length) {y : Int} (hy : y ∈ (gl m.lp k).drop 5) : 0 ≤ y ∧ y < m.lp.length := by
  have hin := h.inf k hk
  simp only [infI, infB, Bool.and_eq_true] at hin
  have := (parsB_iff.1 hin.1.1.2).1 y hy
  omega
set_option maxRecDepth 100000 in
set_option maxHeartbeats 6400000 in
theorem walk (v0 : Value) (bs0 : List Int) (w : World) (h0 : SlB w w.heap.size v0 bs0) :
    Calls Tryz.prog 3 #[v0] w fun e w' => e = .returned (.bool true) ∧ Below w.heap.size w w' := by
  obtain ⟨A0, c0, rfl, hl0, hm0, -⟩ := id h0
  unfold maxLen at hm0
  by_cases hlong : 1048576 < (bs0.length : Int)
  · go_enter Tryz.func3, Tryz.ntmps3
    go_wp2_with fail
    go_ret
    exact ⟨rfl, Below.refl _ _⟩
  · go_enter Tryz.func3, Tryz.ntmps3
    go_wp2_with fail
    refine (E8Ops_any _ bs0 w h0).mono ?_
    rintro e w1 ⟨n, r, M, os, rfl, hn, hO, hD, hl, hb1⟩
    obtain ⟨A, c, rfl, -⟩ := id (hO.sl (Nat.le_refl _))
    have HD := Lib.hid hD
    have HO := Lib.hid (hO.sl (Nat.le_refl _))
    have HB1 := Lib.hid hb1
    have hz1 := hb1.size
    have HN : Hid (Calls Tryz.prog 5 #[.int .i64 n] w1 fun e w' => ∃ f b c l d, e = .returned (.tuple #[.agg #[.int .i64 (newM n).wd, .int .i64 (newM n).rk, f, b, c, l, d], .int .i64 0]) ∧ Hs w' w1.heap.size [mac_ f b c l d (newM n)] ∧ Below w1.heap.size w1 w') := Lib.hid (by
      have := impl_NewMachine_any n w1
      have hi : inR n 1 24 = true := inR_iff.2 (by omega)
      simpa only [nmR, nmC, hi, if_true] using this)
    clear hO hD hb1 h0 hl0 hm0
    go_wp2_with fail
    refine HN.out.mono ?_
    rintro e w2 ⟨xf, xb, xk, xl, xd, rfl, hs2, hb2⟩
    obtain ⟨S0, hm0, hS0, -⟩ := hs2.at_ [] _ []
    have hm2 : OwM w2 S0 xf xb xk xl xd (newM n) := hm0
    obtain ⟨⟨xfA, xfc, rfl⟩, ⟨xbA, xbc, rfl⟩, ⟨xkA, xkc, rfl⟩, ⟨xlA, xlc, rfl⟩, ⟨xdA, xdc, rfl⟩⟩ := (hm2.sl fun j q => (hS0 j q).2).forms
    have hz2 := hb2.size
    have ha3 := al1 w2 (.cells #[.int .i64 (newM n).wd, .int .i64 (newM n).rk, .slice xfA (newM n).fr.length xfc, .slice xbA (newM n).bk.length xbc, .slice xkA (newM n).cr.length xkc, .slice xlA (newM n).lp.length xlc, .slice xdA (newM n).dr.length xdc] 31)
    have HL : Hid (MkL w w1 n w2.heap.size 0 M (newM n) os S0 (.slice xfA (newM n).fr.length xfc) (.slice xbA (newM n).bk.length xbc) (.slice xkA (newM n).cr.length xkc) (.slice xlA (newM n).lp.length xlc) (.slice xdA (newM n).dr.length xdc) (w2.alloc (.cells #[.int .i64 (newM n).wd, .int .i64 (newM n).rk, .slice xfA (newM n).fr.length xfc, .slice xbA (newM n).bk.length xbc, .slice xkA (newM n).cr.length xkc, .slice xlA (newM n).lp.length xlc, .slice xdA (newM n).dr.length xdc] 31))) := Lib.hid ⟨by rw [List.drop_zero]; exact HD.out.run, newM_ok (by omega) (by omega), Used.new n, by intro o ho; simp [newM] at ho, rfl, hm2.keep fun j q => Below.heap_alloc _ _ _ (hS0 j q).2, fun j q => by
      have := hS0 j q
      exact ⟨by omega, by rw [World.size_alloc]; omega⟩, alloc_at_ w2 (.cells #[.int .i64 (newM n).wd, .int .i64 (newM n).rk, .slice xfA (newM n).fr.length xfc, .slice xbA (newM n).bk.length xbc, .slice xkA (newM n).cr.length xkc, .slice xlA (newM n).lp.length xlc, .slice xdA (newM n).dr.length xdc] 31), hb2.trans (ha3.mono hz2)⟩
    clear hm0 hm2 hS0 hs2 hb2 ha3 HN
    go_wp2_with fail
    go_loopw [7] (fun i wr => ∃ (k : Nat) (m : Mac) (S : Nat → Prop) (ffA fbA fkA flA fdA : Option Addr) (ffc fbc fkc flc fdc : Nat), k ≤ os.length ∧ i = .int .i64 k ∧ MkL w w1 n w2.heap.size k M m os S (.slice ffA m.fr.length ffc) (.slice fbA m.bk.length fbc) (.slice fkA m.cr.length fkc) (.slice flA m.lp.length flc) (.slice fdA m.dr.length fdc) wr) (fun i _ => os.length - (intOf i).toNat)
    case atStart => exact ⟨0, newM n, S0, _, _, _, _, _, _, _, _, _, _, Nat.zero_le _, rfl, HL.out⟩
    case round =>
      obtain ⟨k, m, S, ffA, fbA, fkA, flA, fdA, ffc, fbc, fkc, flc, fdc, hk, rfl, hL⟩ := hrel
      have hzr := hL.bel.size
      have HL := Lib.hid hL
      by_cases hlt : k < os.length
      · have hltI : (k : Int) < (os.length : Int) := by omega
        obtain ⟨hcd, hrun⟩ := run_step hL.run hlt
        have hop := os_ok HD.out hL.wd hlt
        have est := st_ok hL.ok hop hcd
        obtain ⟨pb, po, rfl⟩ := HO.out.addr (by omega)
        obtain ⟨-, hpl, q0, q1, q2, q3, q4, q5, q6, q7⟩ := (HO.out.below hL.bel (Nat.le_refl _)).opAt hlt
        obtain ⟨⟨u0, u1, u2, u3, u4, u5, u6⟩, -, hgl⟩ := box7 hL.bx
        have HBXM := Lib.hid hL.bx
        have HSL := Lib.hid (hL.own.sl fun j q => (hL.out j q).2)
        have hpbl : pb < wr.heap.size := by have := hL.bel.size; omega
        obtain ⟨m2, hm2⟩ : ∃ x, x = stepM m (gl os k) := ⟨_, rfl⟩
        have HC : Hid (∀ W, Below wr.heap.size wr W → Calls Tryz.prog 6 #[.agg #[.int .i64 m.wd, .int .i64 m.rk, .slice ffA m.fr.length ffc, .slice fbA m.bk.length fbc, .slice fkA m.cr.length fkc, .slice flA m.lp.length flc, .slice fdA m.dr.length fdc], .agg #[.int .i64 (gi (gl os k) 0), .int .i64 (gi (gl os k) 1), .int .i64 (gi (gl os k) 2), .int .i64 (gi (gl os k) 3), .int .i64 (gi (gl os k) 4), .int .i64 (gi (gl os k) 5), .int .i64 (gi (gl os k) 6), .int .i64 (gi (gl os k) 7)]] W fun e w' => ∃ f b c l d, e = .returned (.tuple #[.agg #[.int .i64 m2.wd, .int .i64 m2.rk, f, b, c, l, d], .int .i64 0]) ∧ Hs w' W.heap.size [mac_ f b c l d m2] ∧ Below W.heap.size W w') := Lib.hid fun W hW => by
          have := impl_StepMachine_any (o := gl os k) (HSL.out.below hW (Nat.le_refl _)) hW.size
          rw [est] at this
          rw [hm2]
          exact this
        have hok2 : OkM m2 := hm2 ▸ stepM_ok hL.ok hop hcd
        have HN2 : Hid (runL m2 (k + 1) (os.drop (k + 1)) = (M, (os.length : Int), 0) ∧ OkM m2 ∧ Used m2 ∧ Five m2.lp ∧ m2.wd = n) := Lib.hid ⟨by rw [hm2]; exact hrun, hok2, by rw [hm2]; exact Used.step hL.ok hL.used hop hcd, by rw [hm2]; exact stepM_fiveF hL.five _, by rw [hm2, stepM_wd]; exact hL.wd⟩
        have HW1 := Lib.hid hL.bel
        have hgB : w2.heap.size < wr.heap.size := hgl
        clear hm2 hop est hcd hrun hL
        generalize gi (gl os k) 0 = o0 at *
        generalize gi (gl os k) 1 = o1 at *
        generalize gi (gl os k) 2 = o2 at *
        generalize gi (gl os k) 3 = o3 at *
        generalize gi (gl os k) 4 = o4 at *
        generalize gi (gl os k) 5 = o5 at *
        generalize gi (gl os k) 6 = o6 at *
        generalize gi (gl os k) 7 = o7 at *
        generalize m.wd = mwd at *
        generalize m.rk = mrk at *
        go_upto_region 10 with fail
        go_cut [8, 9] (fun s8 s9 wx => ∃ (g8 : Nat) (nfA nbA nkA nlA ndA : Option Addr) (nfc nbc nkc nlc ndc : Nat), s8 = .pointer (some ⟨g8, 0, none⟩) ∧ s9 = .int .i64 0 ∧ Hs wx wr.heap.size [mac_ (.slice nfA m2.fr.length nfc) (.slice nbA m2.bk.length nbc) (.slice nkA m2.cr.length nkc) (.slice nlA m2.lp.length nlc) (.slice ndA m2.dr.length ndc) m2, bx_ g8 #[.int .i64 m2.wd, .int .i64 m2.rk, .slice nfA m2.fr.length nfc, .slice nbA m2.bk.length nbc, .slice nkA m2.cr.length nkc, .slice nlA m2.lp.length nlc, .slice ndA m2.dr.length ndc] 31] ∧ Below wr.heap.size wr wx)
        case first =>
          have HK := Lib.hid (fun w' (hw : Below wr.heap.size wr w') => show w'.cell? ⟨w2.heap.size, 0, none⟩ = some (.int .i64 mwd) ∧ w'.cell? ⟨w2.heap.size, 1, none⟩ = some (.int .i64 mrk) ∧ w'.cell? ⟨w2.heap.size, 2, none⟩ = some (.slice ffA m.fr.length ffc) ∧ w'.cell? ⟨w2.heap.size, 3, none⟩ = some (.slice fbA m.bk.length fbc) ∧ w'.cell? ⟨w2.heap.size, 4, none⟩ = some (.slice fkA m.cr.length fkc) ∧ w'.cell? ⟨w2.heap.size, 5, none⟩ = some (.slice flA m.lp.length flc) ∧ w'.cell? ⟨w2.heap.size, 6, none⟩ = some (.slice fdA m.dr.length fdc) ∧ w'.cell? ⟨pb, po + k * 8, none⟩ = some (.int .i64 o0) ∧ w'.cell? ⟨pb, po + k * 8 + 1, none⟩ = some (.int .i64 o1) ∧ w'.cell? ⟨pb, po + k * 8 + 2, none⟩ = some (.int .i64 o2) ∧ w'.cell? ⟨pb, po + k * 8 + 3, none⟩ = some (.int .i64 o3) ∧ w'.cell? ⟨pb, po + k * 8 + 4, none⟩ = some (.int .i64 o4) ∧ w'.cell? ⟨pb, po + k * 8 + 5, none⟩ = some (.int .i64 o5) ∧ w'.cell? ⟨pb, po + k * 8 + 6, none⟩ = some (.int .i64 o6) ∧ w'.cell? ⟨pb, po + k * 8 + 7, none⟩ = some (.int .i64 o7) ∧ Below wr.heap.size wr w' from ⟨by rw [hw.cell (by simp only; omega)]; exact u0, by rw [hw.cell (by simp only; omega)]; exact u1, by rw [hw.cell (by simp only; omega)]; exact u2, by rw [hw.cell (by simp only; omega)]; exact u3, by rw [hw.cell (by simp only; omega)]; exact u4, by rw [hw.cell (by simp only; omega)]; exact u5, by rw [hw.cell (by simp only; omega)]; exact u6, by rw [hw.cell (by simp only; omega)]; exact q0, by rw [hw.cell (by simp only; omega)]; exact q1, by rw [hw.cell (by simp only; omega)]; exact q2, by rw [hw.cell (by simp only; omega)]; exact q3, by rw [hw.cell (by simp only; omega)]; exact q4, by rw [hw.cell (by simp only; omega)]; exact q5, by rw [hw.cell (by simp only; omega)]; exact q6, by rw [hw.cell (by simp only; omega)]; exact q7, hw⟩)
          clear q0 q1 q2 q3 q4 q5 q6 q7 u0 u1 u2 u3 u4 u5 u6
          go_region_held3 (fun w' => w'.cell? ⟨w2.heap.size, 0, none⟩ = some (.int .i64 mwd) ∧ w'.cell? ⟨w2.heap.size, 1, none⟩ = some (.int .i64 mrk) ∧ w'.cell? ⟨w2.heap.size, 2, none⟩ = some (.slice ffA m.fr.length ffc) ∧ w'.cell? ⟨w2.heap.size, 3, none⟩ = some (.slice fbA m.bk.length fbc) ∧ w'.cell? ⟨w2.heap.size, 4, none⟩ = some (.slice fkA m.cr.length fkc) ∧ w'.cell? ⟨w2.heap.size, 5, none⟩ = some (.slice flA m.lp.length flc) ∧ w'.cell? ⟨w2.heap.size, 6, none⟩ = some (.slice fdA m.dr.length fdc) ∧ w'.cell? ⟨pb, po + k * 8, none⟩ = some (.int .i64 o0) ∧ w'.cell? ⟨pb, po + k * 8 + 1, none⟩ = some (.int .i64 o1) ∧ w'.cell? ⟨pb, po + k * 8 + 2, none⟩ = some (.int .i64 o2) ∧ w'.cell? ⟨pb, po + k * 8 + 3, none⟩ = some (.int .i64 o3) ∧ w'.cell? ⟨pb, po + k * 8 + 4, none⟩ = some (.int .i64 o4) ∧ w'.cell? ⟨pb, po + k * 8 + 5, none⟩ = some (.int .i64 o5) ∧ w'.cell? ⟨pb, po + k * 8 + 6, none⟩ = some (.int .i64 o6) ∧ w'.cell? ⟨pb, po + k * 8 + 7, none⟩ = some (.int .i64 o7) ∧ Below wr.heap.size wr w')
            (exact HK.out _ (by go_grown))
            (first
              | (go_at_call 6; (refine (HC.out _ (show Below wr.heap.size wr _ by go_grown)).mono ?_); rintro e wq ⟨qf, qb, qk, ql, qd, rfl, ho, hq⟩; have hr : Below wr.heap.size wr wq := Below.trans (show Below wr.heap.size wr _ by go_grown) (hq.mono (Below.size (w := wr) (B := wr.heap.size) (by go_grown))); have hz := hr.size; have hq2 := hq; clear hq; (first | (have dz := alloc_fwd hq2) | (have dz := alloc_fwd_drew hq2) | (have dz := alloc_fwd_in hq2) | (have dz := alloc_fwd_drewN hq2) | skip); (first | (have hbx := box7 dz; obtain ⟨⟨d0, d1, d2, d3, d4, d5, d6⟩, tfx, -⟩ := hbx; have e0 := tfx 0; have e1 := tfx 1; have e2 := tfx 2; have e3 := tfx 3; have e4 := tfx 4; have e5 := tfx 5; have e6 := tfx 6; clear tfx) | skip); obtain ⟨⟨nfA, nfc, rfl⟩, ⟨nbA, nbc, rfl⟩, ⟨nkA, nkc, rfl⟩, ⟨nlA, nlc, rfl⟩, ⟨ndA, ndc, rfl⟩⟩ := (Hs.rdM [] [] ho).forms))
          · have hSa := ((Hs.nil wr).join hr (Hs.mono ho (by first | exact Nat.le_refl _ | (simp; done) | (simp; omega)))).join (al1 _ _) (hs_bx wq #[.int .i64 m2.wd, .int .i64 m2.rk, .slice nfA m2.fr.length nfc, .slice nbA m2.bk.length nbc, .slice nkA m2.cr.length nkc, .slice nlA m2.lp.length nlc, .slice ndA m2.dr.length ndc] 31)
            have hba := hr.trans ((al1 wq (.cells #[.int .i64 m2.wd, .int .i64 m2.rk, .slice nfA m2.fr.length nfc, .slice nbA m2.bk.length nbc, .slice nkA m2.cr.length nkc, .slice nlA m2.lp.length nlc, .slice ndA m2.dr.length ndc] 31)).mono hz)
            go_wp2_with fail
            go_meet
            exact ⟨_, _, _, _, _, _, _, _, _, _, _, rfl, rfl, hSa, hba⟩
          · have hSa := hs_setBx7F [mac_ (.slice nfA m2.fr.length nfc) (.slice nbA m2.bk.length nbc) (.slice nkA m2.cr.length nkc) (.slice nlA m2.lp.length nlc) (.slice ndA m2.dr.length ndc) m2] [] ((Hs.nil wr).join hr (hs_mac_boxF hr (Hs.mono ho (by first | (simp; done) | exact Nat.le_refl _)) (Nat.le_refl _) dz)) (.int .i64 m2.wd) (.int .i64 m2.rk) (.slice nfA m2.fr.length nfc) (.slice nbA m2.bk.length nbc) (.slice nkA m2.cr.length nkc) (.slice nlA m2.lp.length nlc) (.slice ndA m2.dr.length ndc)
            have hba : Below wr.heap.size wr (((((((wq.setCell ⟨wr.heap.size, 0, none⟩ (.int .i64 m2.wd)).setCell ⟨wr.heap.size, 1, none⟩ (.int .i64 m2.rk)).setCell ⟨wr.heap.size, 2, none⟩ (.slice nfA m2.fr.length nfc)).setCell ⟨wr.heap.size, 3, none⟩ (.slice nbA m2.bk.length nbc)).setCell ⟨wr.heap.size, 4, none⟩ (.slice nkA m2.cr.length nkc)).setCell ⟨wr.heap.size, 5, none⟩ (.slice nlA m2.lp.length nlc)).setCell ⟨wr.heap.size, 6, none⟩ (.slice ndA m2.dr.length ndc)) := set7_belowF (Nat.le_refl _) hr
            go_wp2_with fail
            go_meet
            exact ⟨_, _, _, _, _, _, _, _, _, _, _, rfl, rfl, hSa, hba⟩
        case rest =>
        clear q0 q1 q2 q3 q4 q5 q6 q7 u0 u1 u2 u3 u4 u5 u6 HC HSL
        obtain ⟨g8, nfA, nbA, nkA, nlA, ndA, nfc, nbc, nkc, nlc, ndc, rfl, rfl, hs5, hb5⟩ := hcut
        obtain ⟨w5, hw5⟩ : ∃ x, x = wc := ⟨_, rfl⟩
        subst hw5
        have hz5 := hb5.size
        obtain ⟨kx, -, hg8, hg8b⟩ := Hs.bx [mac_ (.slice nfA m2.fr.length nfc) (.slice nbA m2.bk.length nbc) (.slice nkA m2.cr.length nkc) (.slice nlA m2.lp.length nlc) (.slice ndA m2.dr.length ndc) m2] [] hs5
        have k0 : w5.cell? ⟨g8, 0, none⟩ = some (.int .i64 m2.wd) := kx 0
        have k1 : w5.cell? ⟨g8, 1, none⟩ = some (.int .i64 m2.rk) := kx 1
        have k2 : w5.cell? ⟨g8, 2, none⟩ = some (.slice nfA m2.fr.length nfc) := kx 2
        have k3 : w5.cell? ⟨g8, 3, none⟩ = some (.slice nbA m2.bk.length nbc) := kx 3
        have k4 : w5.cell? ⟨g8, 4, none⟩ = some (.slice nkA m2.cr.length nkc) := kx 4
        have k5 : w5.cell? ⟨g8, 5, none⟩ = some (.slice nlA m2.lp.length nlc) := kx 5
        have k6 : w5.cell? ⟨g8, 6, none⟩ = some (.slice ndA m2.dr.length ndc) := kx 6
        have HVM : Hid (∀ W, Below w5.heap.size w5 W → Calls Tryz.prog 7 #[.agg #[.int .i64 m2.wd, .int .i64 m2.rk, .slice nfA m2.fr.length nfc, .slice nbA m2.bk.length nbc, .slice nkA m2.cr.length nkc, .slice nlA m2.lp.length nlc, .slice ndA m2.dr.length ndc]] W fun e w' => e = .returned (.bool true) ∧ Below W.heap.size W w') := Lib.hid fun W hW => by
          have := spec_ValidMachine_any ((Hs.rdM [] [bx_ g8 #[.int .i64 m2.wd, .int .i64 m2.rk, .slice nfA m2.fr.length nfc, .slice nbA m2.bk.length nbc, .slice nkA m2.cr.length nkc, .slice nlA m2.lp.length nlc, .slice ndA m2.dr.length ndc] 31] hs5).below hW (Nat.le_refl _)) hW.size (mac_small hok2)
          rw [okM_iff.2 hok2] at this
          exact this
        have HS5 := Lib.hid hs5
        have HB5 := Lib.hid hb5
        clear kx hs5 hb5 hok2
        go_wp2_with fail
        refine (HVM.out _ (by first | exact Below.refl _ _ | go_grown)).mono ?_
        rintro e w6 ⟨rfl, hq⟩
        have hz6 := hq.size
        have hb56 : Below w5.heap.size w5 w6 := hq
        obtain ⟨S6, hm6, hS6, -⟩ := HS5.out.at_ [] _ [bx_ g8 #[.int .i64 m2.wd, .int .i64 m2.rk, .slice nfA m2.fr.length nfc, .slice nbA m2.bk.length nbc, .slice nkA m2.cr.length nkc, .slice nlA m2.lp.length nlc, .slice ndA m2.dr.length ndc] 31]
        have HM6 := Lib.hid ((show OwM w5 S6 (.slice nfA m2.fr.length nfc) (.slice nbA m2.bk.length nbc) (.slice nkA m2.cr.length nkc) (.slice nlA m2.lp.length nlc) (.slice ndA m2.dr.length ndc) m2 from hm6).keep fun j q => hb56.block j (hS6 j q).2)
        have hx6 := keep_fwd hb56 (show w5.heap[g8]? = some (.cells #[.int .i64 m2.wd, .int .i64 m2.rk, .slice nfA m2.fr.length nfc, .slice nbA m2.bk.length nbc, .slice nkA m2.cr.length nkc, .slice nlA m2.lp.length nlc, .slice ndA m2.dr.length ndc] 31) from (HS5.out.at_ [mac_ (.slice nfA m2.fr.length nfc) (.slice nbA m2.bk.length nbc) (.slice nkA m2.cr.length nkc) (.slice nlA m2.lp.length nlc) (.slice ndA m2.dr.length ndc) m2] _ []).choose_spec.1.2)
        obtain ⟨⟨k0, k1, k2, k3, k4, k5, k6⟩, -, hg8⟩ := box7 hx6
        have hxm := keep_fwd hb56 (keep_fwd HB5.out HBXM.out)
        obtain ⟨⟨u0, u1, u2, u3, u4, u5, u6⟩, uf, hgl6⟩ := box7 hxm
        have uf0 := uf 0
        have uf1 := uf 1
        have uf2 := uf 2
        have uf3 := uf 3
        have uf4 := uf 4
        have uf5 := uf 5
        have uf6 := uf 6
        have hne : g8 ≠ w2.heap.size := by omega
        have HLN : Hid (MkL w w1 n w2.heap.size (k + 1) M m2 os S6 (.slice nfA m2.fr.length nfc) (.slice nbA m2.bk.length nbc) (.slice nkA m2.cr.length nkc) (.slice nlA m2.lp.length nlc) (.slice ndA m2.dr.length ndc) ((((((((w6.setCell ⟨w2.heap.size, 0, none⟩ (.int .i64 m2.wd)).setCell ⟨w2.heap.size, 1, none⟩ (.int .i64 m2.rk)).setCell ⟨w2.heap.size, 2, none⟩ (.slice nfA m2.fr.length nfc)).setCell ⟨w2.heap.size, 3, none⟩ (.slice nbA m2.bk.length nbc)).setCell ⟨w2.heap.size, 4, none⟩ (.slice nkA m2.cr.length nkc)).setCell ⟨w2.heap.size, 5, none⟩ (.slice nlA m2.lp.length nlc)).setCell ⟨w2.heap.size, 6, none⟩ (.slice ndA m2.dr.length ndc)))) := Lib.hid (by
          obtain ⟨e1, e2, e3, e4⟩ := box7_set (.int .i64 m2.wd) (.int .i64 m2.rk) (.slice nfA m2.fr.length nfc) (.slice nbA m2.bk.length nbc) (.slice nkA m2.cr.length nkc) (.slice nlA m2.lp.length nlc) (.slice ndA m2.dr.length ndc) hxm
          obtain ⟨a1, a2, a3, a4, a5⟩ := HN2.out
          refine ⟨a1, a2, a3, a4, a5, HM6.out.keep fun j q => e2 j ?_, fun j q => ⟨?_, ?_⟩, e1, ?_⟩
          · have := hS6 j q; omega
          · have := hS6 j q; omega
          · have := hS6 j q; rw [e3]; omega
          · exact HW1.out.trans ((HB5.out.mono (by omega)).trans ((hb56.mono (by omega)).trans (e4 _ (by omega)))))
        clear uf hm6 hS6 hx6 hxm HVM HM6
        go_wp2_with fail
        go_roundw
        case rel => exact ⟨k + 1, m2, S6, _, _, _, _, _, _, _, _, _, _, by omega, by go_num, HLN.out⟩
        case measure => simp [intOf]; omega
      · obtain rfl : k = os.length := by omega
        have hmM := run_end hL.run
        subst hmM
        obtain ⟨w3, hw3⟩ : ∃ x, x = wr := ⟨_, rfl⟩
        subst hw3
        have hokm := hL.ok
        have HOK := Lib.hid hL.ok
        have HUSE := Lib.hid hL.used
        have hB3 := hL.bel
        have HB3 := Lib.hid (HB1.out.trans (hB3.mono hz1))
        have H3 := Lib.hid (hL.own.sl fun j q => (hL.out j q).2)
        have HRM : Hid (Calls Tryz.prog 8 #[.int .i64 n, .slice A os.length c] w3 fun e w' => ∃ f b c l d, e = .returned (.tuple #[.agg #[.int .i64 m.wd, .int .i64 m.rk, f, b, c, l, d], .int .i64 (os.length : Int), .int .i64 0]) ∧ Hs w' w3.heap.size [mac_ f b c l d m] ∧ Below w3.heap.size w3 w') := Lib.hid (by
          have := impl_RunMachine_any (n := n) (HO.out.below hB3 (Nat.le_refl _)) hB3.size
          rw [rmR_yes (drOk_okOpsF HD.out hn hl), HD.out.run] at this
          exact this)
        have HF5 := Lib.hid hL.five
        have HX3 := Lib.hid hL.bx
        clear hL hB3 HL hokm HD HO
        go_wp2_with fail
        refine HRM.out.mono ?_
        rintro e w4 ⟨yf, yb, yk, yl, yd, rfl, hs4, hb4⟩
        obtain ⟨⟨gfA, gfc, rfl⟩, ⟨gbA, gbc, rfl⟩, ⟨gkA, gkc, rfl⟩, ⟨glA, glc, rfl⟩, ⟨gdA, gdc, rfl⟩⟩ := (Hs.rdM [] [] hs4).forms
        have hz4 := hb4.size
        have ha5 := al1 w4 (.cells #[.int .i64 m.wd, .int .i64 m.rk, .slice gfA m.fr.length gfc, .slice gbA m.bk.length gbc, .slice gkA m.cr.length gkc, .slice glA m.lp.length glc, .slice gdA m.dr.length gdc] 31)
        have hb5 : Below w3.heap.size w3 (w4.alloc (.cells #[.int .i64 m.wd, .int .i64 m.rk, .slice gfA m.fr.length gfc, .slice gbA m.bk.length gbc, .slice gkA m.cr.length gkc, .slice glA m.lp.length glc, .slice gdA m.dr.length gdc] 31)) := hb4.trans (ha5.mono hz4)
        have HX5 := Lib.hid (keep_fwd hb5 HX3.out)
        have HY5 := Lib.hid (alloc_at_ w4 (.cells #[.int .i64 m.wd, .int .i64 m.rk, .slice gfA m.fr.length gfc, .slice gbA m.bk.length gbc, .slice gkA m.cr.length gkc, .slice glA m.lp.length glc, .slice gdA m.dr.length gdc] 31))
        have HM5 := Lib.hid (H3.out.below hb5 (Nat.le_refl _))
        have HA5 := Lib.hid ((Hs.rdM [] [] hs4).below ha5 (Nat.le_refl _))
        have HB5 := Lib.hid (HB3.out.trans (hb5.mono HB3.out.size))
        have hz5 : (w4.alloc (.cells #[.int .i64 m.wd, .int .i64 m.rk, .slice gfA m.fr.length gfc, .slice gbA m.bk.length gbc, .slice gkA m.cr.length gkc, .slice glA m.lp.length glc, .slice gdA m.dr.length gdc] 31)).heap.size = w4.heap.size + 1 := by simp
        clear hs4 hb4 ha5 hb5 HX3 H3 HB3 HRM
        go_upto_region 15 with fail
        generalize hw5 : w4.alloc (.cells #[.int .i64 m.wd, .int .i64 m.rk, .slice gfA m.fr.length gfc, .slice gbA m.bk.length gbc, .slice gkA m.cr.length gkc, .slice glA m.lp.length glc, .slice gdA m.dr.length gdc] 31) = w5 at *
        clear hw5
        have h35 : w3.heap.size ≤ w5.heap.size := by omega
        have h45 : w4.heap.size ≤ w5.heap.size := by omega
        have HV : Hid (∀ W, Below w5.heap.size w5 W → Calls Tryz.prog 7 #[.agg #[.int .i64 m.wd, .int .i64 m.rk, .slice ffA m.fr.length ffc, .slice fbA m.bk.length fbc, .slice fkA m.cr.length fkc, .slice flA m.lp.length flc, .slice fdA m.dr.length fdc]] W fun e w' => e = .returned (.bool true) ∧ Below W.heap.size W w') := Lib.hid fun W hW => by
          have := spec_ValidMachine_any (HM5.out.below hW h35) (Nat.le_trans h35 hW.size) (mac_small HOK.out)
          rw [okM_iff.2 HOK.out] at this
          exact this
        have HS : Hid (∀ W, Below w5.heap.size w5 W → Calls Tryz.prog 9 #[.agg #[.int .i64 m.wd, .int .i64 m.rk, .slice gfA m.fr.length gfc, .slice gbA m.bk.length gbc, .slice gkA m.cr.length gkc, .slice glA m.lp.length glc, .slice gdA m.dr.length gdc], .agg #[.int .i64 m.wd, .int .i64 m.rk, .slice ffA m.fr.length ffc, .slice fbA m.bk.length fbc, .slice fkA m.cr.length fkc, .slice flA m.lp.length flc, .slice fdA m.dr.length fdc]] W fun e w' => e = .returned (.bool true) ∧ Below W.heap.size W w') := Lib.hid fun W hW => by
          have := spec_SameMachine_any (HA5.out.below hW h45) (HM5.out.below hW h35) (Nat.le_trans h45 hW.size) (Nat.le_trans h35 hW.size) HF5.out HF5.out
          rw [sameM_self] at this
          exact this
        have HI : Hid (∀ W, Below w5.heap.size w5 W → Calls Tryz.prog 10 #[.agg #[.int .i64 m.wd, .int .i64 m.rk, .slice ffA m.fr.length ffc, .slice fbA m.bk.length fbc, .slice fkA m.cr.length fkc, .slice flA m.lp.length flc, .slice fdA m.dr.length fdc]] W fun e w' => e = .returned (.bool true) ∧ Below W.heap.size W w') := Lib.hid fun W hW => by
          have := ValidMachine_any (HM5.out.below hW h35) (Nat.le_trans h35 hW.size)
          rw [okM_iff.2 HOK.out] at this
          exact this
        have HLV : Hid (∀ W, Below w5.heap.size w5 W → Calls Tryz.prog 11 #[.agg #[.int .i64 m.wd, .int .i64 m.rk, .slice ffA m.fr.length ffc, .slice fbA m.bk.length fbc, .slice fkA m.cr.length fkc, .slice flA m.lp.length flc, .slice fdA m.dr.length fdc]] W fun e w' => ∃ r, e = .returned (.tuple #[r, .int .i64 0]) ∧ Ow w' W.heap.size w'.heap.size r (liveM m) ∧ Below W.heap.size W w') := Lib.hid fun W hW => by
          have := impl_LiveLoops_any (HM5.out.below hW h35) (Nat.le_trans h35 hW.size)
          rw [(ll_yes (okM_iff.2 HOK.out)).1, (ll_yes (okM_iff.2 HOK.out)).2] at this
          exact this
        obtain ⟨⟨u0, u1, u2, u3, u4, u5, u6⟩, -, hgl⟩ := box7 HX5.out
        go_wp2_with fail
        clear u0 u1 u2 u3 u4 u5 u6 hgl
        refine (HV.out _ (Below.refl _ _)).mono ?_
        rintro e w6 ⟨rfl, hq6⟩
        have hz6 := hq6.size
        obtain ⟨⟨u0, u1, u2, u3, u4, u5, u6⟩, -, hgl⟩ := box7 (keep_fwd hq6 HX5.out)
        obtain ⟨⟨v0, v1, v2, v3, v4, v5, v6⟩, -, hgla⟩ := box7 (keep_fwd hq6 HY5.out)
        have HQ6 := Lib.hid hq6
        clear hq6 HV
        go_wp2_with fail
        clear u0 u1 u2 u3 u4 u5 u6 hgl v0 v1 v2 v3 v4 v5 v6 hgla
        refine (HS.out _ HQ6.out).mono ?_
        rintro e w7 ⟨rfl, hq⟩
        have HQ7 := Lib.hid (HQ6.out.trans (hq.mono hz6))
        have hz7 := HQ7.out.size
        clear hq HQ6 HS hz6
        obtain ⟨⟨u0, u1, u2, u3, u4, u5, u6⟩, -, hgl⟩ := box7 (keep_fwd HQ7.out HX5.out)
        go_wp2_with fail
        clear u0 u1 u2 u3 u4 u5 u6 hgl
        refine (HI.out _ HQ7.out).mono ?_
        rintro e w8 ⟨rfl, hq⟩
        have HQ8 := Lib.hid (HQ7.out.trans (hq.mono hz7))
        have hz8 := HQ8.out.size
        clear hq HQ7 HI hz7
        obtain ⟨⟨u0, u1, u2, u3, u4, u5, u6⟩, -, hgl⟩ := box7 (keep_fwd HQ8.out HX5.out)
        go_wp2_with fail
        clear u0 u1 u2 u3 u4 u5 u6 hgl
        refine (HLV.out _ HQ8.out).mono ?_
        rintro e w9 ⟨r9, rfl, hO9, hq⟩
        have hz9 := hq.size
        have HLI := Lib.hid (hO9.sl (Nat.le_refl _))
        have HQ9 := Lib.hid (HQ8.out.trans (hq.mono hz8))
        obtain ⟨lvA, lvc, rfl, -⟩ := id HLI.out
        have h9 := HQ9.out.size
        have HX9 := Lib.hid (keep_fwd HQ9.out HX5.out)
        have HM9 := Lib.hid (HM5.out.below HQ9.out h35)
        have HB9 := Lib.hid (HB5.out.trans (HQ9.out.mono HB5.out.size))
        have hB9 : w3.heap.size ≤ w9.heap.size := Nat.le_trans h35 h9
        have hgl9 : w2.heap.size < w9.heap.size := heap_lt HX9.out
        clear hq hO9 HQ8 HQ9 HLV HX5 HY5 HM5 HA5 HB5 hz8 hz9 HF5
        have HLPB := Lib.hid (show m.lp.length ≤ 300 from HOK.out.lp)
        have hlp300 := HLPB.out
        obtain ⟨i0, hi, hzz0, hzz1, hzz2⟩ := info_parts bool_info
        have HIN := Lib.hid hi
        have HZN := Lib.hid hzz0
        clear hi hzz0
        obtain ⟨⟨-, -, -, -, -, u5, -⟩, -, -⟩ := box7 HX9.out
        go_wp2_with (at_make; refine wpList_make_full _ rfl _ _ 45 rfl w9.heap.size 4 i0 (.bool false) 1 Tryz.underlying45 HIN.out HZN.out hzz1 _ _ _ _ m.lp.length rfl rfl rfl rfl (by rw [hzz2]; omega) (by unfold maxLen; omega) (Nat.le_refl _) ?_)
        intro w10 hown hg2
        have hU0 : UsT w9 w10 m.lp.length (seenB m.lp.length []) := ⟨seenB_len _ _, ⟨w10.heap.size, Nat.le_refl _, by
          unfold OwB
          rw [seenB_len, seenB_nil, List.map_replicate]
          rw [toList_madeCells_one] at hown
          exact OwR.of_own hown⟩, (Below.refl w9.heap.size w9).grown hg2 (Nat.le_refl _) (by simp)⟩
        have HU0 := Lib.hid hU0
        clear hown hg2 hU0 u5 HIN HZN hzz1 hzz2
        go_wp2_with fail
        go_loopw [16] (fun i wr => ∃ (k : Nat) (bs : List Bool), k ≤ m.lp.length ∧ i = .int .i64 k ∧ UsT w9 wr m.lp.length bs ∧ MkU m k bs) (fun i _ => m.lp.length - (intOf i).toNat)
        case atStart => exact ⟨0, _, Nat.zero_le _, rfl, HU0.out, fun j hj => absurd hj (by omega)⟩
        case round =>
          obtain ⟨k, bs, hk, rfl, hU, hM⟩ := hrel
          have HU := Lib.hid hU
          have HM := Lib.hid hM
          obtain ⟨wA, hwA⟩ : ∃ x, x = wr := ⟨_, rfl⟩
          subst hwA
          obtain ⟨⟨-, -, -, -, -, u5, -⟩, -, hglw⟩ := box7 (keep_fwd hU.bel HX9.out)
          clear hU hM HU0
          by_cases hlt : k < m.lp.length
          · have hltI : (k : Int) < (m.lp.length : Int) := by omega
            obtain ⟨A5, c5, e5, k5⟩ := SlF.rows HM9.out.lp hB9
            simp only [Value.slice.injEq] at e5
            obtain ⟨rfl, -, rfl⟩ := e5
            obtain ⟨lp, lo, rfl, hlpB, k5⟩ := k5 (by omega)
            obtain ⟨a5, b5, q5⟩ := k5 k hlt
            have HQ5 := Lib.hid q5
            have HRG : Hid (∀ y ∈ (gl m.lp k).drop 5, 0 ≤ y ∧ y < m.lp.length) := Lib.hid fun y hy => par_rng HOK.out hlt hy
            have HST : Hid (∀ bs, MkU m k bs → MkP ((gl m.lp k).drop 5) bs → MkU m (k + 1) bs) := Lib.hid fun bs h1 h2 => h1.step h2
            clear k5 q5
            generalize (gl m.lp k).drop 5 = ps at *
            generalize gi (gl m.lp k) 0 = i0 at *
            generalize gi (gl m.lp k) 1 = i1 at *
            generalize gi (gl m.lp k) 2 = i2 at *
            generalize gi (gl m.lp k) 3 = i3 at *
            generalize gi (gl m.lp k) 4 = i4 at *
            go_wp2_with fail
            go_loopw [17] (fun i wr => ∃ (j : Nat) (bs : List Bool), j ≤ ps.length ∧ i = .int .i64 j ∧ UsT w9 wr m.lp.length bs ∧ MkU m k bs ∧ MkP (ps.take j) bs) (fun i _ => ps.length - (intOf i).toNat)
            case atStart => exact ⟨0, _, Nat.zero_le _, rfl, HU.out, HM.out, by rw [List.take_zero]; exact MkP.nil _⟩
            case round =>
              obtain ⟨j, bs, hj, rfl, hU, hM, hP⟩ := hrel
              have HU := Lib.hid hU
              have HM := Lib.hid hM
              have HP := Lib.hid hP
              obtain ⟨⟨-, -, -, -, -, u5, -⟩, -, hglw⟩ := box7 (keep_fwd hU.bel HX9.out)
              obtain ⟨⟨-, -, -, -, -, t5⟩, s5⟩ := HQ5.out wr hU.bel
              clear hU hM hP
              by_cases hlj : j < ps.length
              · have hljI : (j : Int) < (ps.length : Int) := by omega
                obtain ⟨A9, c9, e9, hl9, hm9, -, hcell⟩ := s5
                unfold maxLen at hm9
                simp only [Value.slice.injEq] at e9
                obtain ⟨rfl, -, rfl⟩ := e9
                obtain ⟨b2, off2, rfl, hbB2, hcc⟩ := hcell (by omega)
                have r1 := hcc j hlj
                clear hcell hcc
                obtain ⟨y0, y1⟩ := HRG.out _ (gi_mem hlj)
                have HT1 := Lib.hid (take_gi hlj)
                generalize gi ps j = x at *
                obtain ⟨y, rfl⟩ : ∃ y : Nat, x = y := ⟨x.toNat, by omega⟩
                have hyn : y < m.lp.length := by omega
                obtain ⟨q8, q9, hU2⟩ := HU.out.set hyn
                have HU2 := Lib.hid hU2
                have hgu := HU.out.lt (by omega)
                clear hU2
                go_wp2_with fail
                go_roundw
                case rel => exact ⟨j + 1, _, by omega, by go_num, HU2.out, HM.out.set y, by rw [HT1.out]; exact HP.out.snoc (by rw [HU.out.len]; exact hyn)⟩
                case measure => simp [intOf]; omega
              · obtain rfl : j = ps.length := by omega
                go_wp2_with fail
                go_roundw
                case rel => exact ⟨k + 1, bs, by omega, by go_num, HU.out, HST.out bs HM.out (by have := HP.out; rwa [List.take_length] at this)⟩
                case measure => simp [intOf]; omega
          · obtain rfl : k = m.lp.length := by omega
            go_wp2_with fail
            go_loopw [18] (fun i wr => ∃ (k : Nat) (bs : List Bool), k ≤ m.dr.length ∧ i = .int .i64 k ∧ UsT w9 wr m.lp.length bs ∧ MkU m m.lp.length bs ∧ MkP (m.dr.take k) bs) (fun i _ => m.dr.length - (intOf i).toNat)
            case atStart => exact ⟨0, _, Nat.zero_le _, rfl, HU.out, HM.out, by rw [List.take_zero]; exact MkP.nil _⟩
            case round =>
              obtain ⟨j, bs, hj, rfl, hU, hM, hP⟩ := hrel
              clear HU HM u5 hglw
              have HU := Lib.hid hU
              have HM := Lib.hid hM
              have HP := Lib.hid hP
              obtain ⟨⟨-, -, -, -, -, -, u6⟩, -, hglw⟩ := box7 (keep_fwd hU.bel HX9.out)
              have s5 := HM9.out.dr.below hU.bel hB9
              clear hU hM hP
              obtain ⟨wB, hwB⟩ : ∃ x, x = wr := ⟨_, rfl⟩
              subst hwB
              by_cases hlj : j < m.dr.length
              · have hljI : (j : Int) < (m.dr.length : Int) := by omega
                obtain ⟨A9, c9, e9, hl9, hm9, -, hcell⟩ := s5
                unfold maxLen at hm9
                simp only [Value.slice.injEq] at e9
                obtain ⟨rfl, -, rfl⟩ := e9
                obtain ⟨b2, off2, rfl, hbB2, hcc⟩ := hcell (by omega)
                have r1 := hcc j hlj
                clear hcell hcc
                obtain ⟨y0, y1⟩ := HOK.out.rng _ (show gi m.dr j ∈ allM m by simp only [allM, List.mem_append]; exact .inr (gi_mem hlj))
                have HT1 := Lib.hid (take_gi hlj)
                generalize gi m.dr j = x at *
                obtain ⟨y, rfl⟩ : ∃ y : Nat, x = y := ⟨x.toNat, by omega⟩
                have hyn : y < m.lp.length := by omega
                obtain ⟨q8, q9, hU2⟩ := HU.out.set hyn
                have HU2 := Lib.hid hU2
                have hgu := HU.out.lt (by omega)
                clear hU2
                go_wp2_with fail
                go_roundw
                case rel => exact ⟨j + 1, _, by omega, by go_num, HU2.out, HM.out.set y, by rw [HT1.out]; exact HP.out.snoc (by rw [HU.out.len]; exact hyn)⟩
                case measure => simp [intOf]; omega
              · obtain rfl : j = m.dr.length := by omega
                have HP2 : Hid (MkP m.dr bs) := Lib.hid (by have := HP.out; rwa [List.take_length] at this)
                clear HP s5
                go_wp2_with fail
                go_loopw [19] (fun i wr => ∃ (k : Nat) (bs : List Bool), k ≤ (liveM m).length ∧ i = .int .i64 k ∧ UsT w9 wr m.lp.length bs ∧ (MkU m m.lp.length bs ∧ MkP m.dr bs) ∧ MkP ((liveM m).take k) bs) (fun i _ => (liveM m).length - (intOf i).toNat)
                case atStart => exact ⟨0, _, Nat.zero_le _, rfl, HU.out, ⟨HM.out, HP2.out⟩, by rw [List.take_zero]; exact MkP.nil _⟩
                case round =>
                  obtain ⟨j, bs, hj, rfl, hU, hM, hP⟩ := hrel
                  clear HU HM u6 hglw HP2
                  have HU := Lib.hid hU
                  have HM := Lib.hid hM
                  have HP := Lib.hid hP
                  have s5 := HLI.out.below hU.bel (Nat.le_refl _)
                  clear hU hM hP
                  obtain ⟨wC, hwC⟩ : ∃ x, x = wr := ⟨_, rfl⟩
                  subst hwC
                  have HRG := Lib.hid (live_rng HOK.out)
                  by_cases hlj : j < (liveM m).length
                  · have hljI : (j : Int) < ((liveM m).length : Int) := by omega
                    obtain ⟨A9, c9, e9, hl9, hm9, -, hcell⟩ := s5
                    unfold maxLen at hm9
                    simp only [Value.slice.injEq] at e9
                    obtain ⟨rfl, -, rfl⟩ := e9
                    obtain ⟨b2, off2, rfl, hbB2, hcc⟩ := hcell (by omega)
                    have r1 := hcc j hlj
                    clear hcell hcc
                    obtain ⟨y0, y1⟩ := HRG.out _ (gi_mem hlj)
                    have HT1 := Lib.hid (take_gi hlj)
                    generalize gi (liveM m) j = x at *
                    obtain ⟨y, rfl⟩ : ∃ y : Nat, x = y := ⟨x.toNat, by omega⟩
                    have hyn : y < m.lp.length := by omega
                    obtain ⟨q8, q9, hU2⟩ := HU.out.set hyn
                    have HU2 := Lib.hid hU2
                    have hgu := HU.out.lt (by omega)
                    clear hU2
                    go_wp2_with fail
                    go_roundw
                    case rel => exact ⟨j + 1, _, by omega, by go_num, HU2.out, ⟨HM.out.1.set y, HM.out.2.set y⟩, by rw [HT1.out]; exact HP.out.snoc (by rw [HU.out.len]; exact hyn)⟩
                    case measure => simp [intOf]; omega
                  · obtain rfl : j = (liveM m).length := by omega
                    have HALL : Hid (∀ k, k < m.lp.length → gb bs k = true) := Lib.hid fun k hk => mk_all HOK.out HUSE.out HM.out.1 HM.out.2 (by have := HP.out; rwa [List.take_length] at this) hk
                    clear HP s5 HRG HM
                    go_wp2_with fail
                    go_loopw [20] (fun i wr => ∃ k : Nat, k ≤ m.lp.length ∧ i = .int .i64 k ∧ UsT w9 wr m.lp.length bs) (fun i _ => m.lp.length - (intOf i).toNat)
                    case atStart => exact ⟨0, Nat.zero_le _, rfl, HU.out⟩
                    case round =>
                      obtain ⟨j, hj, rfl, hU⟩ := hrel
                      clear HU
                      have HU := Lib.hid hU
                      clear hU
                      by_cases hlj : j < m.lp.length
                      · have hljI : (j : Int) < (m.lp.length : Int) := by omega
                        obtain ⟨q8, -, -⟩ := HU.out.set hlj
                        rw [HALL.out j hlj] at q8
                        go_wp2_with fail
                        go_roundw
                        case rel => exact ⟨j + 1, by omega, by go_num, HU.out⟩
                        case measure => simp [intOf]; omega
                      · go_wp2_with fail
                        go_ret
                        exact ⟨rfl, HB9.out.trans (HU.out.bel.mono HB9.out.size)⟩

set_option maxRecDepth 100000 in
theorem lifted (os : Os) (started : os.Started) (H : Type) (enc : TypeId × Value → H) :
    ReturnsInHanded {} Tryz.checked os 3 .any (Rows.fnMachineSpec.pre6 enc Tryz.prog Tryz.f3 Rows.fnMachineRow.domain false) (Rows.fnMachineSpec.post enc Tryz.prog Tryz.f3 false true false false) := by
  refine returnsInHanded_of_change (C := Tryz.checked) own_knob started (by kernel_rfl) Tryz.func3
    (ChangeSpec.witness6 (enc := enc) (C := Tryz.checked) false ⟨#[], #[.slice none 0 0], []⟩ 8 (by kernel_rfl) (by kernel_rfl) (by kernel_rfl) (by kernel_rfl)) ?_
  intro W base args ds gs before hval0 hW hcnd _
  have hval : ∀ (j : Nat) t v, Tryz.f3.params[j]? = some t → args[j]? = some v → Value.okWide Tryz.prog W .any base t v := hval0
  have hW' := hW
  obtain ⟨p, q, hA0, hV, rfl, hfz, hnd⟩ := hW
  have hA : DataW.TrodAll enc Tryz.prog W 0 (fun _ => true) true Tryz.f3.params.toList args.toList ds p := hA0
  rw [Tryz.params3] at hA hval
  obtain ⟨v0, vs0, d0, ds0, p0, q0, hargs, rfl, rfl, h0, r0⟩ := trodAll_cons hA
  obtain ⟨rfl, rfl, rfl⟩ := trodAll_nil r0
  obtain rfl : args = #[v0] := by cases args; simp_all
  obtain ⟨rfl, rfl⟩ := trodVars_none hV
  have k0 := h0
  have lt0 : ∀ x ∈ p0, x.block < W.heap.size := by obtain ⟨m, hm⟩ := k0; exact DataW.trod_lt m _ _ _ hm
  obtain ⟨bs0, s0⟩ := open_SlB (hval 0 22 v0 rfl rfl) h0
  clear hA0 hval0
  refine (walk v0 bs0 W s0).mono fun e W' ⟨he, bel⟩ => ?_
  subst he
  exact ⟨_, rfl, _, _, _, [], _, [], hW', trodAll_mk1 (shut_bool Tryz.underlying4 _), (trodAll_cons_mk (Below.trod laid_out (by kernel_rfl) (of_decide_eq_true (by kernel_rfl)) k0 bel lt0) trodAll_mk0), rfl, bel.frame _, fun h => by cases h⟩

/-- The statement. -/
theorem proved : Rows.FnMachineSaid :=
  OpenClaim.holds_of_wide 3 Tryz.f3 rfl rfl rfl rfl rfl rfl rfl ⟨rfl, rfl, rfl, rfl, rfl⟩ rfl rfl rfl rfl rfl (by kernel_rfl) Tryz.func3 (by kernel_rfl)
    (of_decide_eq_true (by kernel_rfl)) (by unfold Func.isWrapper; first | (rw [if_pos (by decide +kernel)]; kernel_rfl) | (rw [if_neg (by decide +kernel)]; exact ⟨rfl, rfl⟩))
    (fun os started H enc _ => lifted os started H enc)
#print axioms proved
end Go.Proofs.YtgmppfhokfifgaaGreat.fnMachine
