/-
  Contracts: the reference's l07Draw (a program that is drawn: it can be executed), and what draws by it. Printed by gen_drm.py.
-/
import Derived.Test.YtgmppfhokfifgaaGreatDoorDro
import Derived.Test.YtgmppfhokfifgaaGreatDoorGmh
import Derived.Test.YtgmppfhokfifgaaGreatDoorVmd
import Derived.Test.YtgmppfhokfifgaaGreatDoorPo5
namespace Go.Proofs.YtgmppfhokfifgaaGreatDoor
set_option maxRecDepth 10000
open Go.RowKit

/-- What is known of a program that is drawn. -/
structure DrOk (n : Int) (M : Mac) (os : List (List Int)) : Prop where
  ops : ∀ o ∈ os, o.length = 8 ∧ opB o = true ∧ gi o 3 < n ∧ gi o 5 < n
  wd : M.wd = n
  ok : OkM M
  run : runL (newM n) 0 os = (M, (os.length : Int), 0)
theorem runL_snoc {o : List Int} : ∀ (os : List (List Int)) (m : Mac) (i : Nat) (M : Mac) (j : Int), runL m i os = (M, j, 0) → codeM M o = 0 → runL m i (os ++ [o]) = (stepM M o, j + 1, 0)
  | [], m, i, M, j, h, hc => by
    simp only [runL, Prod.mk.injEq] at h
    obtain ⟨rfl, rfl, -⟩ := h
    simp [runL, hc]
  | q :: os, m, i, M, j, h, hc => by
    rw [List.cons_append]
    unfold runL at h ⊢
    by_cases h0 : codeM m q = 0
    · rw [if_pos h0] at h ⊢
      exact runL_snoc os (stepM m q) (i + 1) M j h hc
    · rw [if_neg h0] at h
      simp only [Prod.mk.injEq] at h
      exact absurd h.2.2 h0
theorem DrOk.step {n : Int} {M : Mac} {os : List (List Int)} {o : List Int} (h : DrOk n M os) (h8 : o.length = 8) (ho : OpOk M o) (hc : codeM M o = 0) : DrOk n (stepM M o) (os ++ [o]) := by
  refine ⟨fun q hq => ?_, by rw [stepM_wd]; exact h.wd, stepM_ok h.ok ho hc, ?_⟩
  · rcases List.mem_append.1 hq with hq | hq
    · exact h.ops q hq
    · simp only [List.mem_singleton] at hq
      subst hq
      exact ⟨h8, ho.op, by rw [← h.wd]; exact ho.f1, by rw [← h.wd]; exact ho.f2⟩
  · rw [runL_snoc os _ 0 M _ h.run hc, List.length_append]
    simp
theorem eight {o : List Int} (h : o.length = 8) : [gi o 0, gi o 1, gi o 2, gi o 3, gi o 4, gi o 5, gi o 6, gi o 7] = o := by
  match o, h with
  | [_, _, _, _, _, _, _, _], _ => rfl
theorem oplB {w : World} {p : Nat} {o : List Int} (hx : w.heap[p]? = some (.cells #[.int .i64 (gi o 0), .int .i64 (gi o 1), .int .i64 (gi o 2), .int .i64 (gi o 3), .int .i64 (gi o 4), .int .i64 (gi o 5), .int .i64 (gi o 6), .int .i64 (gi o 7)] 38)) : OpL w p 0 o :=
  ⟨cell_of_row w p 0 _ _ (0, 0) hx, cell_of_row w p 1 _ _ (0, 0) hx, cell_of_row w p 2 _ _ (0, 0) hx, cell_of_row w p 3 _ _ (0, 0) hx, cell_of_row w p 4 _ _ (0, 0) hx, cell_of_row w p 5 _ _ (0, 0) hx, cell_of_row w p 6 _ _ (0, 0) hx, cell_of_row w p 7 _ _ (0, 0) hx⟩
/-- The state of the loop. -/
structure DrL (w : World) (p K : Nat) (n most : Int) (g k : Nat) (v : Value) (wr : World) (Sm : Nat → Prop) (M : Mac) (os : List (List Int)) : Prop where
  bx : OwBox wr Sm g M
  lt : ∀ j, Sm j → w.heap.size < j ∧ j < wr.heap.size
  ops : OwT 8 38 wr (g + 1) wr.heap.size v os
  ne : ∀ b, v.ownBlock = some b → ¬ Sm b
  res : wr.heap[w.heap.size]? = some (.cells #[.int .i64 0, .int .i64 0, .slice none 0 0, .slice none 0 0, .slice none 0 0, .slice none 0 0, .slice none 0 0] 75)
  ok : OkM M
  run : DrOk n M os
  cnt : (os.length : Int) + k ≤ most
  src : Src wr p (K + 1000 - 24 * k)
  chg : Chg p (p + 1) w wr
theorem DrL.next {w : World} {p K : Nat} {n most : Int} {g k : Nat} {v : Value} {wr w' : World} {Sm : Nat → Prop} {M : Mac} {os : List (List Int)} (h : DrL w p K n most g k v wr Sm M os) (hk : 0 < k) (hk30 : k ≤ 30) (hp : p < w.heap.size) (hg : w.heap.size < g) (hs : Src w' p (K + 1000 - 24 * k + 20)) (hc : Chg p (p + 1) wr w') : DrL w p K n most g (k - 1) v w' Sm M os := by
  have hz := hc.size
  refine ⟨h.bx.old (fun j q => ⟨(h.lt j q).2, by have := (h.lt j q).1; omega⟩) hc, fun j q => ⟨(h.lt j q).1, by have := (h.lt j q).2; omega⟩, (h.ops.keep fun j q1 q2 => hc.block j q2 (by omega)).mono (Nat.le_refl _) hz, h.ne, (hc.block _ (heap_lt h.res) (by omega)).trans h.res, h.ok, h.run, ?_, hs.mono (by omega), h.chg.trans hc⟩
  have := h.cnt
  omega
theorem DrL.grow {w : World} {p K : Nat} {n most : Int} {g k : Nat} {v : Value} {wr w10 w11 w12 : World} {Sm S9 : Nat → Prop} {M : Mac} {os os2 : List (List Int)} {v' : Value} {o : List Int} (h : DrL w p K n most g k v wr Sm M os) (hk : 0 < k) (hk30 : k ≤ 30) (hp : p < w.heap.size) (hg : w.heap.size < g) (hgr : g < wr.heap.size)
    (hs : Src w10 p (K + 1000 - 24 * k + 20)) (hc : Chg p (p + 1) wr w10) (hin : OwBox w11 (fun j => S9 j ∨ j = g) g (stepM M o)) (h9 : ∀ q, S9 q → wr.heap.size ≤ q ∧ q < w10.heap.size) (e6 : ∀ j, j ≠ g → w11.heap[j]? = w10.heap[j]?) (e4 : w11.heap.size = w10.heap.size) (e5 : Below g w10 w11)
    (hO : OwT 8 38 w12 (g + 1) w12.heap.size v' os2) (hgb : w11.grownBy w12 v.ownBlock) (hv : v'.ownBlock = v.ownBlock ∨ ∀ b, v'.ownBlock = some b → w11.heap.size ≤ b) (h8 : o.length = 8) (ho : OpOk M o) (hcd : codeM M o = 0) (hos : os2 = os ++ [o]) :
    DrL w p K n most g (k - 1) v' w12 (fun j => S9 j ∨ j = g) (stepM M o) os2 := by
  subst hos
  have hob : ∀ b, v.ownBlock = some b → g + 1 ≤ b ∧ b < wr.heap.size := fun b hb => h.ops.1.1.lt b hb
  have hz := hc.size
  have hz2 := hgb.size
  have hbl : ∀ j, j < w11.heap.size → (∀ b, v.ownBlock = some b → j ≠ b) → w12.heap[j]? = w11.heap[j]? := fun j hj hn => hgb.block j hj fun e => hn j e.symm rfl
  have hb12 : Below (g + 1) w11 w12 := ⟨hgb.os, hgb.tape, hgb.output, hgb.size, fun j hj => hbl j (by omega) fun b hb => by have := hob b hb; omega⟩
  have hcn := h.cnt
  refine ⟨hin.keep fun j q => hbl j ?_ ?_, fun j q => ?_, hO, fun b hb q => ?_, ?_, stepM_ok h.ok ho hcd, h.run.step h8 ho hcd, ?_, ?_, ?_⟩
  · rcases q with q | q
    · have := h9 j q; omega
    · omega
  · intro b hb
    have := hob b hb
    rcases q with q | q
    · have := h9 j q; omega
    · omega
  · rcases q with q | q
    · have := h9 j q; omega
    · omega
  · rcases hv with e | e
    · rw [e] at hb
      have := hob b hb
      rcases q with q | q
      · have := h9 b q; omega
      · omega
    · have := e b hb
      rcases q with q | q
      · have := h9 b q; omega
      · omega
  · exact ((hb12.block _ (by omega)).trans (e6 _ (by omega))).trans ((hc.block _ (heap_lt h.res) (by omega)).trans h.res)
  · rw [List.length_append]
    simp only [List.length_cons, List.length_nil]
    omega
  · exact ((hs.below e5 (by omega)).below hb12 (by omega)).mono (by omega)
  · exact ((h.chg.trans hc).then_below (e5.mono (by omega))).then_below (hb12.mono (by omega))
theorem wpList_append_op {ops : Array Oper} {rest : List Oper} {o : Oper} {a : Act} {Q : Exit → Act → World → Prop} (hgd : o.guard = none) (s x : Operand)
    (ho : o.op = .call { callee := .builtin .append, args := #[s, x], argTypes := #[22, 22] })
    (w : World) (lo hi : Nat) (v : Value) (os : List (List Int)) (q : List Int) (hs : a.eval s = v) (g0 : Nat) (hx : a.eval x = .slice (some ⟨g0, 0, none⟩) 1 1) (hg0 : g0 = w.heap.size) (h8 : q.length = 8)
    (hown : OwT 8 38 w lo hi v os) (hlo : lo ≤ w.heap.size) (hlen : os.length ≤ 1000000)
    (h : ∀ v' w', OwT 8 38 w' lo w'.heap.size v' (os ++ [q]) → w.grownBy w' v.ownBlock → (v'.ownBlock = v.ownBlock ∨ ∀ g, v'.ownBlock = some g → w.heap.size ≤ g) → wpList Tryz.prog ops Q rest (a.put o.dst v') w') :
    wpList Tryz.prog ops Q (o :: rest) a (w.alloc (.cells #[.int .i64 (gi q 0), .int .i64 (gi q 1), .int .i64 (gi q 2), .int .i64 (gi q 3), .int .i64 (gi q 4), .int .i64 (gi q 5), .int .i64 (gi q 6), .int .i64 (gi q 7)] 38)) := by
  subst hg0
  refine wpList_append_elem Tryz.underlying22 op_info rfl (by omega) (by omega) hgd s x ho w lo hi v os.length (vals os.flatten) [.int .i64 (gi q 0), .int .i64 (gi q 1), .int .i64 (gi q 2), .int .i64 (gi q 3), .int .i64 (gi q 4), .int .i64 (gi q 5), .int .i64 (gi q 6), .int .i64 (gi q 7)] hs hx hown.1 hlo (by omega) rfl (by simp [Value.oneCell']) ?_
  intro v' w' h1 h2 h3
  refine h v' w' ⟨?_, fun r hr => ?_⟩ h2 h3
  · have e : vals (os ++ [q]).flatten = vals os.flatten ++ [.int .i64 (gi q 0), .int .i64 (gi q 1), .int .i64 (gi q 2), .int .i64 (gi q 3), .int .i64 (gi q 4), .int .i64 (gi q 5), .int .i64 (gi q 6), .int .i64 (gi q 7)] := by
      have e9 : vals q = [.int .i64 (gi q 0), .int .i64 (gi q 1), .int .i64 (gi q 2), .int .i64 (gi q 3), .int .i64 (gi q 4), .int .i64 (gi q 5), .int .i64 (gi q 6), .int .i64 (gi q 7)] := by
        match q, h8 with
        | [_, _, _, _, _, _, _, _], _ => rfl
      rw [← e9]
      simp [vals]
    rw [e, List.length_append]
    exact h1
  · rcases List.mem_append.1 hr with hr | hr
    · exact hown.2 r hr
    · simp only [List.mem_singleton] at hr
      subst hr
      exact h8
set_option maxRecDepth 100000 in
set_option maxHeartbeats 12800000 in
theorem l07Draw_any {w : World} {p K : Nat} {most : Int} (h : Src w p K) (hK : K ≤ 999970000) (hm0 : 0 ≤ most) (hm1 : most ≤ 30) :
    Calls Tryz.prog 47 #[.pointer (some ⟨p, 0, none⟩), .int .i64 most] w fun e w' => ∃ (n rk : Int) (xA yA zA tA uA : Option Addr) (x1 x2 y1 y2 z1 z2 t1 t2 u1 u2 : Nat) (r : Value) (M : Mac) (os : List (List Int)), e = .returned (.tuple #[.agg #[.int .i64 n, .int .i64 rk, .slice xA x1 x2, .slice yA y1 y2, .slice zA z1 z2, .slice tA t1 t2, .slice uA u1 u2], r]) ∧ (2 ≤ n ∧ n ≤ 6) ∧ OwT 8 38 w' w.heap.size w'.heap.size r os ∧ DrOk n M os ∧ os.length ≤ 30 ∧ Src w' p (K + 1000) ∧ Chg p (p + 1) w w' := by
  have hp := h.lt
  have HXR := Lib.hid (alloc_at_ w (.cells #[.int .i64 0, .int .i64 0, .slice none 0 0, .slice none 0 0, .slice none 0 0, .slice none 0 0, .slice none 0 0] 75))
  have HA := Lib.hid (al1 w (.cells #[.int .i64 0, .int .i64 0, .slice none 0 0, .slice none 0 0, .slice none 0 0, .slice none 0 0, .slice none 0 0] 75))
  have hs0 := h.below (al1 w (.cells #[.int .i64 0, .int .i64 0, .slice none 0 0, .slice none 0 0, .slice none 0 0, .slice none 0 0, .slice none 0 0] 75)) hp
  clear h
  go_enter Tryz.func47, Tryz.ntmps47
  go_wp2_with fail
  refine (pick_any 5 p _ _ hs0 (by omega)).mono ?_
  rintro e w1 ⟨x, rfl, x0, x1, hs1, hc1⟩
  have hwr : IntKind.i64.wrap (2 + x) = 2 + x := IntWalk.i64_in _ (by omega)
  have hn0 : 2 ≤ 2 + x ∧ 2 + x ≤ 6 := by omega
  have hz1 := hc1.size
  have HC1 := Lib.hid (chg_new HA.out hc1)
  have HXR1 := Lib.hid ((hc1.block w.heap.size (by simp) (by omega)).trans HXR.out)
  have hw1 : w.heap.size < w1.heap.size := by simp only [World.size_alloc] at hz1; omega
  clear hc1 hz1 HXR HA hs0
  clear x0 x1
  go_wp2_with fail
  generalize 2 + x = n at *
  clear hwr
  refine (l07New_any n w1 (by omega) (by omega)).mono ?_
  rintro e w2 ⟨f, b, c, l, d, rfl, hs2, hb2⟩
  obtain ⟨Sm, hmac0, hSm, -⟩ := hs2.at_ [] _ []
  have hmac : OwM w2 Sm f b c l d (newM n) := hmac0
  clear hmac0
  obtain ⟨⟨fA, fc, rfl⟩, ⟨bA, bc, rfl⟩, ⟨kA, kc, rfl⟩, ⟨lA, lc, rfl⟩, ⟨dA, dc, rfl⟩⟩ := (hmac.sl fun k q => (hSm k q).2).forms
  have hbx := hmac.box fun k q => (hSm k q).2
  have hg2 := hb2.size
  obtain ⟨w3, hw3⟩ : ∃ x, x = w2.alloc (.cells #[.int .i64 (newM n).wd, .int .i64 (newM n).rk, .slice fA (newM n).fr.length fc, .slice bA (newM n).bk.length bc, .slice kA (newM n).cr.length kc, .slice lA (newM n).lp.length lc, .slice dA (newM n).dr.length dc] 75) := ⟨_, rfl⟩
  rw [← hw3] at hbx
  have hz3 : w3.heap.size = w2.heap.size + 1 := by rw [hw3]; simp
  have hb3 : Below w2.heap.size w2 w3 := by rw [hw3]; exact al1 w2 _
  have hb4 := al1 w3 (.cells #[] 38)
  have hb14 : Below w1.heap.size w1 (w3.alloc (.cells #[] 38)) := hb2.trans ((hb3.trans (hb4.mono (by omega))).mono hg2)
  have hO4 := OwT.empty_ 8 38 w3
  have hx4 := hbx.below (fun k q => by rcases q with q | q; have := hSm k q; omega; omega) hb4
  have hs4 := hs1.below hb14 hs1.lt
  have hc4 := HC1.out.then_below ((hb14).mono (by omega))
  have hx5 := keep_fwd hb14 HXR1.out
  have hz4 : (w3.alloc (.cells #[] 38)).heap.size = w2.heap.size + 2 := by simp [hz3]
  rw [hw3] at hb14 hb4 hO4 hx4 hs4 hc4 hx5 hz4
  clear hs2 hmac hbx hb3 hw3 hs1 HC1 HXR1
  have HFR : Hid (w.heap.size < w1.heap.size ∧ w1.heap.size ≤ w2.heap.size ∧ w3.heap.size = w2.heap.size + 1 ∧ ∀ k, Sm k → w1.heap.size ≤ k ∧ k < w2.heap.size) := Lib.hid ⟨hw1, hg2, hz3, hSm⟩
  have HX4 := Lib.hid hx4
  simp only [World.size_alloc] at hO4
  have HO4 := Lib.hid hO4
  have HC4 := Lib.hid hc4
  have HX5 := Lib.hid hx5
  have HZ4 := Lib.hid hz4
  clear hb4 hO4 hx4 hc4 hx5 hz4 hSm hb2 hg2 hw1 hz3 hb14
  go_wp2_with fail
  have hwm : IntKind.i64.wrap (most + 1) = most + 1 := IntWalk.i64_in _ (by omega)
  refine (pick_any (most + 1) p _ _ hs4 (by omega)).mono ?_
  rintro e w5 ⟨kk, rfl, k0, k1, hs5, hc5⟩
  obtain ⟨k, rfl⟩ : ∃ k : Nat, kk = (k : Int) := ⟨kk.toNat, by omega⟩
  have hL0 : DrL w p K n most w2.heap.size k (.slice (some ⟨w2.heap.size + 1, 0, none⟩) ([] : List (List Int)).length 0) w5 (fun j => Sm j ∨ j = w2.heap.size) (newM n) [] := by
    obtain ⟨f1, f2, f3, f4⟩ := HFR.out
    have hz4 := HZ4.out
    have hz5 := hc5.size
    rw [hz4] at hz5
    refine ⟨HX4.out.old (fun j q => ⟨?_, ?_⟩) hc5, fun j q => ?_, ?_, fun b hb => ?_, (hc5.block w.heap.size (by omega) (by omega)).trans HX5.out, newM_ok (by omega) (by omega), ⟨by simp, rfl, newM_ok (by omega) (by omega), rfl⟩, ?_, hs5.mono ?_, HC4.out.trans hc5⟩
    · rw [hz4]
      rcases q with q | q
      · have := f4 j q; omega
      · omega
    · rcases q with q | q
      · have := f4 j q; omega
      · omega
    · rcases q with q | q
      · have := f4 j q; omega
      · omega
    · exact (HO4.out.keep fun j q1 q2 => hc5.block j (by omega) (by omega)).mono (by omega) (by omega)
    · simp only [Value.ownBlock, Option.some.injEq] at hb
      rintro (q | q)
      · have := f4 b q; omega
      · omega
    · simp only [List.length_nil]; omega
    · omega
  have HL0 := Lib.hid hL0
  have hk0 : k ≤ 30 := by omega
  have HG : Hid (w.heap.size < w2.heap.size) := Lib.hid (by have := HFR.out; omega)
  clear hL0 HFR HX4 HO4 HC4 HX5 HZ4 hs4 hs5 hc5 hwm k0 k1
  go_wp2_with fail
  go_loopw [8, 7] (fun i v wr => ∃ (k : Nat) (Sm : Nat → Prop) (A : Option Addr) (c : Nat) (M : Mac) (os : List (List Int)), k ≤ 30 ∧ i = .int .i64 k ∧ v = .slice A os.length c ∧ DrL w p K n most w2.heap.size k (.slice A os.length c) wr Sm M os) (fun i _ _ => (intOf i).toNat)
  case atStart => exact ⟨k, _, _, _, _, [], hk0, rfl, rfl, HL0.out⟩
  case round =>
    clear HL0 hk0
    obtain ⟨k, Sm, A, c, M, os, hk30, rfl, rfl, hL⟩ := hrel
    have HL := Lib.hid hL
    have hgw := HG.out
    by_cases hk : 0 < k
    · have hkI : (0 : Int) < (k : Int) := by omega
      have hwk : IntKind.i64.wrap ((k : Int) - 1) = (k : Int) - 1 := IntWalk.i64_in _ (by omega)
      have hpr : p < wr.heap.size := hL.src.lt
      have hS : ∀ j, Sm j → j < wr.heap.size ∧ j ≠ p := fun j q => ⟨(hL.lt j q).2, by have := (hL.lt j q).1; omega⟩
      have HDO := Lib.hid (l07DrawOp_any hL.src (by omega) hL.bx hS hL.ok)
      have HS := Lib.hid hS
      clear hL hS
      go_wp2_with fail
      refine HDO.out.mono ?_
      rintro e w6 ⟨o, rfl, ho8, hoo, hs6, hc6⟩
      clear HDO
      unfold op8
      have hx6 := HL.out.bx.old HS.out hc6
      have hz6 := hc6.size
      obtain ⟨w7, hw7⟩ : ∃ x, x = w6.alloc (.cells #[.int .i64 (gi o 0), .int .i64 (gi o 1), .int .i64 (gi o 2), .int .i64 (gi o 3), .int .i64 (gi o 4), .int .i64 (gi o 5), .int .i64 (gi o 6), .int .i64 (gi o 7)] 38) := ⟨_, rfl⟩
      have hb7 : Below w6.heap.size w6 w7 := by rw [hw7]; exact al1 w6 _
      have hz7 : w7.heap.size = w6.heap.size + 1 := by rw [hw7]; simp
      have hxo : w7.heap[w6.heap.size]? = some (.cells #[.int .i64 (gi o 0), .int .i64 (gi o 1), .int .i64 (gi o 2), .int .i64 (gi o 3), .int .i64 (gi o 4), .int .i64 (gi o 5), .int .i64 (gi o 6), .int .i64 (gi o 7)] 38) := by rw [hw7]; exact alloc_at_ w6 _
      have hx7 := hx6.below (fun j q => Nat.lt_of_lt_of_le (HS.out j q).1 hz6) hb7
      obtain ⟨mf, mb, mc, ml, md, hxm, hsm, -⟩ := hx7.rd (B := w7.heap.size) (fun j q => by have := (HS.out j q).1; omega)
      have HOWN := Lib.hid (l07Own_any hxm hsm (Nat.le_refl _) HL.out.ok)
      have HXM := Lib.hid hxm
      have HXO := Lib.hid hxo
      have hgl := heap_lt hxm
      have HC6 := Lib.hid hc6
      have HB7 := Lib.hid hb7
      have HZ7 := Lib.hid hz7
      have HS6 := Lib.hid hs6
      have HOO := Lib.hid hoo
      have HO8 := Lib.hid ho8
      have HX7 := Lib.hid hx7
      rw [hw7] at HOWN
      have HW7 := Lib.hid hw7
      clear hx6 hb7 hxo hx7 hxm hsm hc6 hz7 hs6 hoo ho8
      go_wp2_with fail
      refine HOWN.out.mono ?_
      rintro e w8 ⟨nf, nb, nc, nl, nd, rfl, hm8, hb8⟩
      rw [← HW7.out] at hm8 hb8
      clear HOWN
      obtain ⟨⟨xA, xc, rfl⟩, ⟨yA, yc, rfl⟩, ⟨zA, zc, rfl⟩, ⟨tA, tc, rfl⟩, ⟨uA, uc, rfl⟩⟩ := (hm8.sl fun k q => q.2).forms
      have hz8 := hb8.size
      have hbx8 := hm8.box fun k q => q.2
      have hS8 : ∀ j, ((w7.heap.size ≤ j ∧ j < w8.heap.size) ∨ j = w8.heap.size) → j < (w8.alloc (.cells #[.int .i64 M.wd, .int .i64 M.rk, .slice xA M.fr.length xc, .slice yA M.bk.length yc, .slice zA M.cr.length zc, .slice tA M.lp.length tc, .slice uA M.dr.length uc] 75)).heap.size := fun j q => by
        rw [World.size_alloc]
        rcases q with q | q <;> omega
      have b9 : Below w7.heap.size w7 (w8.alloc (.cells #[.int .i64 M.wd, .int .i64 M.rk, .slice xA M.fr.length xc, .slice yA M.bk.length yc, .slice zA M.cr.length zc, .slice tA M.lp.length tc, .slice uA M.dr.length uc] 75)) := hb8.trans ((al1 w8 _).mono hz8)
      have hz7 := HZ7.out
      have HD9 := Lib.hid (l07Do_any hbx8 hS8 (oplB (keep_fwd b9 HXO.out)) (fun q => by rcases q with q | q <;> omega) HL.out.ok HOO.out)
      obtain ⟨cd, hcd⟩ : ∃ cd, cd = codeM M o := ⟨_, rfl⟩
      rw [← hcd] at HD9
      have HCD := Lib.hid hcd
      have HB9 := Lib.hid b9
      clear hm8 hb8 hbx8 hS8 b9 hcd
      go_wp2_with fail
      refine HD9.out.mono ?_
      rintro e w9 ⟨rfl, hx9, hc9⟩
      clear HD9
      have hz9 := hc9.size
      simp only [World.size_alloc] at hz9
      have b10 : Below w7.heap.size w7 w9 := by
        have h4 := HB9.out
        exact h4.trans ⟨hc9.os, hc9.tape, hc9.output, hc9.size, fun j hj => hc9.block j (by have := h4.size; simp only [World.size_alloc] at this ⊢; omega) (fun q => by rcases q with q | q <;> omega)⟩
      have HB10 := Lib.hid b10
      have b11 : Below w6.heap.size w6 w9 := HB7.out.trans (b10.mono (by omega))
      have HC9 := Lib.hid (HC6.out.then_below (b11.mono hz6))
      have HS9 := Lib.hid (HS6.out.below b11 HS6.out.lt)
      have HX9 := Lib.hid hx9
      have HLT : Hid (∀ q, Now (fun k => (w7.heap.size ≤ k ∧ k < w8.heap.size) ∨ k = w8.heap.size) (w8.alloc (.cells #[.int .i64 M.wd, .int .i64 M.rk, .slice xA M.fr.length xc, .slice yA M.bk.length yc, .slice zA M.cr.length zc, .slice tA M.lp.length tc, .slice uA M.dr.length uc] 75)) w9 q → w7.heap.size ≤ q ∧ q < w9.heap.size) := Lib.hid fun q qq => by
        rcases qq with (qq | qq) | qq
        · omega
        · omega
        · have h1 := qq.1
          simp only [World.size_alloc] at h1
          exact ⟨by omega, qq.2⟩
      clear b10 b11 hx9 hc9
      by_cases hcz : cd = 0
      · subst hcz
        have h9 := HX9.out rfl
        have HOK9 := Lib.hid (stepM_ok HL.out.ok HOO.out HCD.out.symm)
        obtain ⟨qf, qb, qc, ql, qd, hxn, hsn, -⟩ := h9.rd (B := w9.heap.size) (fun j q => (HLT.out j q).2)
        have HLV := Lib.hid (l07Live_any hsn (Nat.le_refl _) hxn HOK9.out)
        have H9 := Lib.hid h9
        obtain ⟨ln, hln⟩ : ∃ ln, ln = liveM (stepM M o) := ⟨_, rfl⟩
        rw [← hln] at HLV
        clear h9 hxn hsn HX9 hln
        go_wp2_with fail
        refine HLV.out.mono ?_
        rintro e w10 ⟨lr, rfl, hol, hb11⟩
        obtain ⟨lvA, lvc, rfl, -⟩ := id (hol.sl (Nat.le_refl _))
        clear HLV
        have HB11 := Lib.hid hb11
        have hz10 := hb11.size
        have HC10 := Lib.hid (HC9.out.then_below (hb11.mono HC9.out.size))
        have HS10 := Lib.hid (HS9.out.below hb11 HS9.out.lt)
        clear hol hb11
        by_cases h9l : ((ln.length : Nat) : Int) ≤ 9
        · have hgr := HL.out.bx.lt (fun j q => (HS.out j q).1)
          have h10 := H9.out.below (fun j q => (HLT.out j q).2) HB11.out
          have hb710 : Below w7.heap.size w7 w10 := HB10.out.trans (HB11.out.mono (by omega))
          have hxg := keep_fwd hb710 HXM.out
          obtain ⟨pf, pb, pc, pl, pd, e1, e2, e3, e4, e5⟩ := h10.out (r := w2.heap.size) (fun q => by have := (HLT.out _ q).1; omega) hxg
          obtain ⟨-, e6, -, -⟩ := box7_set (.int .i64 (stepM M o).wd) (.int .i64 (stepM M o).rk) pf pb pc pl pd hxg
          obtain ⟨⟨iA, ic, rfl⟩, ⟨jA, jc, rfl⟩, ⟨mA, mc', rfl⟩, ⟨qA, qc', rfl⟩, ⟨rA, rc', rfl⟩⟩ := (e3.sl (B := w9.heap.size) (fun q qq => (HLT.out q qq).2)).forms
          have hin := e3.into (fun q => by have := (HLT.out _ q).1; omega) e2
          obtain ⟨⟨y0, y1, y2, y3, y4, y5, y6⟩, -, -⟩ := box7 e1
          obtain ⟨⟨v0, v1, v2, v3, v4, v5, v6⟩, tf, -⟩ := box7 hxg
          have tf0 := tf 0
          have tf1 := tf 1
          have tf2 := tf 2
          have tf3 := tf 3
          have tf4 := tf 4
          have tf5 := tf 5
          have tf6 := tf 6
          have HXO10 := Lib.hid (keep_fwd hb710 HXO.out)
          have HALL := Lib.hid (And.intro hin (And.intro e6 (And.intro e4 e5)))
          clear h10 hb710 hxg e1 e2 e3 e4 e5 e6 hin tf
          go_upto_region 10 with fail
          clear y0 y1 y2 y3 y4 y5 y6 v0 v1 v2 v3 v4 v5 v6 tf0 tf1 tf2 tf3 tf4 tf5 tf6
          generalize hW : World.setCell _ _ _ = w11 at *
          clear hW
          obtain ⟨hin, e6, e4, e5⟩ := HALL.out
          have HOPS := Lib.hid (HL.out.ops.keep fun j q1 q2 => (e6 j (by omega)).trans (HC10.out.block j q2 (by omega)))
          obtain ⟨⟨y0, y1, y2, y3, y4, y5, y6, y7⟩, -, hyl⟩ := box8 ((e6 w6.heap.size (by omega)).trans HXO10.out)
          have hz11 : wr.heap.size ≤ w11.heap.size := by rw [e4]; omega
          have hlen : os.length ≤ 1000000 := by have := HL.out.cnt; omega
          clear hin e6 e4 e5
          go_wp2_with (at_builtin; refine wpList_append_op rfl _ _ rfl w11 (w2.heap.size + 1) wr.heap.size (.slice A os.length c) os o rfl _ rfl rfl HO8.out HOPS.out (by omega) hlen ?_; intro v12 w12 hO12 hg12 hv12; obtain ⟨os2, hos2⟩ : ∃ x, x = os ++ [o] := ⟨_, rfl⟩; rw [← hos2] at hO12; have HOS := Lib.hid hos2; have HO12 := Lib.hid hO12; have HG12 := Lib.hid hg12; have HV12 := Lib.hid hv12; obtain ⟨A2, c2, rfl, -⟩ := id (HO12.out.sl (Nat.le_refl _)); clear hos2 hO12 hg12 hv12 y0 y1 y2 y3 y4 y5 y6 y7 hyl)
          go_roundw
          case rel =>
            obtain ⟨hin, e6, e4, e5⟩ := HALL.out
            exact ⟨k - 1, _, A2, c2, stepM M o, os2, by omega, by go_num, rfl, HL.out.grow hk hk30 hp hgw hgr HS10.out HC10.out hin (fun q qq => ⟨by have := (HLT.out q qq).1; omega, by have := (HLT.out q qq).2; omega⟩) e6 e4 e5 HO12.out HG12.out HV12.out HO8.out HOO.out HCD.out.symm HOS.out⟩
          case measure => simp [intOf]; omega
        · go_wp2_with fail
          go_roundw
          case rel => exact ⟨k - 1, Sm, A, c, M, os, by omega, by go_num, rfl, HL.out.next hk hk30 hp hgw HS10.out HC10.out⟩
          case measure => simp [intOf]; omega
      · have hcb : (cd == 0) = false := by simp [hcz]
        go_wp2_with fail
        go_roundw
        case rel => exact ⟨k - 1, Sm, A, c, M, os, by omega, by go_num, rfl, HL.out.next hk hk30 hp hgw HS9.out HC9.out⟩
        case measure => simp [intOf]; omega
    · obtain rfl : k = 0 := by omega
      clear hL
      obtain ⟨gf, gb, gk, gl_, gd, hxg, hsl, -⟩ := HL.out.bx.rd (B := wr.heap.size) (fun j q => (HL.out.lt j q).2)
      obtain ⟨⟨xA, xc, rfl⟩, ⟨yA, yc, rfl⟩, ⟨zA, zc, rfl⟩, ⟨tA, tc, rfl⟩, ⟨uA, uc, rfl⟩⟩ := hsl.forms
      obtain ⟨⟨y0, y1, y2, y3, y4, y5, y6⟩, -, -⟩ := box7 hxg
      have hxr := HL.out.res
      obtain ⟨⟨v0, v1, v2, v3, v4, v5, v6⟩, tf, -⟩ := box7 hxr
      have tf0 := tf 0
      have tf1 := tf 1
      have tf2 := tf 2
      have tf3 := tf 3
      have tf4 := tf 4
      have tf5 := tf 5
      have tf6 := tf 6
      obtain ⟨e1, e6, e4, e5⟩ := box7_set (.int .i64 M.wd) (.int .i64 M.rk) (.slice xA M.fr.length xc) (.slice yA M.bk.length yc) (.slice zA M.cr.length zc) (.slice tA M.lp.length tc) (.slice uA M.dr.length uc) hxr
      have HN := Lib.hid (box7 e1).1
      have HE6 := Lib.hid e6
      have HE4 := Lib.hid e4
      have HE5 := Lib.hid (e5 w.heap.size (Nat.le_refl _))
      clear hxg hsl hxr e1 e6 e4 e5 tf
      go_wp2_with fail
      obtain ⟨n0', n1', n2', n3', n4', n5', n6'⟩ := HN.out
      refine bodyPost_ret (v := .tuple #[.agg #[.int .i64 M.wd, .int .i64 M.rk, .slice xA M.fr.length xc, .slice yA M.bk.length yc, .slice zA M.cr.length zc, .slice tA M.lp.length tc, .slice uA M.dr.length uc], .slice A os.length c]) (by simp [results, Tryz.results47, go_sem, n0', n1', n2', n3', n4', n5', n6']) rfl ?_
      refine ⟨n, M.rk, _, _, _, _, _, _, _, _, _, _, _, _, _, _, _, _, M, os, by rw [HL.out.run.wd], hn0, (HL.out.ops.keep fun j q1 q2 => HE6.out j (by omega)).mono (by omega) (by rw [HE4.out]; exact Nat.le_refl _), HL.out.run, by have := HL.out.cnt; omega, (HL.out.src.below HE5.out hp).mono (by omega), HL.out.chg.then_below HE5.out⟩
set_option maxRecDepth 100000 in
set_option maxHeartbeats 1600000 in
theorem l08Draw_any {w : World} {p K : Nat} (h : Src w p K) (hK : K ≤ 999970000) :
    Calls Tryz.prog 26 #[.pointer (some ⟨p, 0, none⟩)] w fun e w' => ∃ (n : Int) (r : Value) (M : Mac) (os : List (List Int)), e = .returned (.tuple #[.int .i64 n, r]) ∧ (2 ≤ n ∧ n ≤ 6) ∧ OwT 8 38 w' w.heap.size w'.heap.size r os ∧ DrOk n M os ∧ os.length ≤ 30 ∧ Chg p (p + 1) w w' := by
  have HD := Lib.hid (l07Draw_any (most := 20) h hK (by omega) (by omega))
  clear h
  go_enter Tryz.func26, Tryz.ntmps26
  go_wp2_with fail
  refine HD.out.mono ?_
  rintro e w1 ⟨n, rk, xA, yA, zA, tA, uA, x1, x2, y1, y2, z1, z2, t1, t2, u1, u2, r, M, os, rfl, hn, hO, hM, hl, -, hc⟩
  obtain ⟨A, c, rfl, -⟩ := id (hO.sl (Nat.le_refl _))
  have HO := Lib.hid hO
  have HC := Lib.hid hc
  have hz := hc.size
  clear hO hc HD
  go_wp2_with fail
  refine bodyPost_ret (v := .tuple #[.int .i64 n, .slice A os.length c]) (by simp [results, Tryz.results26, go_sem]) rfl ?_
  exact ⟨n, _, M, os, rfl, hn, (HO.out.below (al1 w1 _) (Nat.le_refl _)).mono (Nat.le_refl _) (by simp), hM, hl, HC.out.then_below ((al1 w1 _).mono hz)⟩
set_option maxHeartbeats 1600000 in
theorem A2Program_any (v : Value) (bs : List Int) (w : World) (h : SlB w w.heap.size v bs) :
    Calls Tryz.prog 11 #[v] w fun e w' => ∃ (n : Int) (r : Value) (M : Mac) (os : List (List Int)), e = .returned (.tuple #[.int .i64 n, r]) ∧ (2 ≤ n ∧ n ≤ 6) ∧ OwT 8 38 w' w.heap.size w'.heap.size r os ∧ DrOk n M os ∧ os.length ≤ 30 ∧ Below w.heap.size w w' := by
  obtain ⟨A, c, rfl, -⟩ := id h
  have HF := Lib.hid (l00From_any _ bs w h)
  clear h
  go_enter Tryz.func11, Tryz.ntmps11
  go_wp2_with fail
  refine HF.out.mono ?_
  rintro e w1 ⟨rfl, hs, hb⟩
  have HD := Lib.hid (l08Draw_any hs (by omega))
  have hz := hb.size
  have HB := Lib.hid hb
  clear hs hb HF
  go_wp2_with fail
  refine HD.out.mono ?_
  rintro e w2 ⟨n, r, M, os, rfl, hn, hO, hM, hl, hc⟩
  obtain ⟨A2, c2, rfl, -⟩ := id (hO.sl (Nat.le_refl _))
  have HO := Lib.hid (hO.mono hz (Nat.le_refl _))
  have HC := Lib.hid (show Below w.heap.size w w2 from ⟨hc.os.trans HB.out.os, hc.tape.trans HB.out.tape, hc.output.trans HB.out.output, Nat.le_trans hz hc.size, fun j hj => (hc.block j (by omega) (by omega)).trans (HB.out.block j hj)⟩)
  clear hO hc HD
  go_wp2_with fail
  refine bodyPost_ret (v := .tuple #[.int .i64 n, .slice A2 os.length c2]) (by simp [results, Tryz.results11, go_sem]) rfl ?_
  exact ⟨n, _, M, os, rfl, hn, HO.out, hM, hl, HC.out⟩
end Go.Proofs.YtgmppfhokfifgaaGreatDoor
