/-
  Contracts: the reference's l01DrawNeedle, l07DrawOp. Printed by gen_dro.py.
-/
import Derived.Test.YtgmppfhokfifgaaGreatDoorDr
import Derived.Test.YtgmppfhokfifgaaGreatDoorMm
import Derived.Test.YtgmppfhokfifgaaGreatDoorGmd
import Derived.Test.YtgmppfhokfifgaaGreatDoorGvm
import Derived.Test.YtgmppfhokfifgaaGreatDoorGma
import Derived.Deep.DeepCutAuto
namespace Go.Proofs.YtgmppfhokfifgaaGreatDoor
set_option maxRecDepth 10000
open Go.RowKit

theorem Hs.chgP {w w' : World} {lo p : Nat} {L : List Itm} (h : Hs w lo L) (hc : Chg p (p + 1) w w') (hp : p < lo) : Hs w' lo L := by
  obtain ⟨h0, own, h1⟩ := h
  refine ⟨Nat.le_trans h0 hc.size, own, fun k t e => ?_⟩
  obtain ⟨a, b⟩ := h1 k t e
  exact ⟨t.keep a fun j hj => hc.block j (b j hj).2 (by have := (b j hj).1; omega), fun j hj => ⟨(b j hj).1, Nat.lt_of_lt_of_le (b j hj).2 hc.size⟩⟩
theorem chg_new {p : Nat} {w wa wb : World} (ha : Below w.heap.size w wa) (hc : Chg p (p + 1) wa wb) : Chg p (p + 1) w wb :=
  ⟨hc.os.trans ha.os, hc.tape.trans ha.tape, hc.output.trans ha.output, Nat.le_trans ha.size hc.size, fun j hj hd => (hc.block j (Nat.lt_of_lt_of_le hj ha.size) hd).trans (ha.block j hj)⟩
/-- Boxes that a call has made, beside the source of choices. -/
def Dst (w : World) (p K : Nat) (L : List Itm) (wx : World) : Prop := Src wx p K ∧ Chg p (p + 1) w wx ∧ Hs wx w.heap.size L
theorem Dst.src {w wx : World} {p K : Nat} {L : List Itm} (h : Dst w p K L wx) : Src wx p K := h.1
theorem Dst.chg {w wx : World} {p K : Nat} {L : List Itm} (h : Dst w p K L wx) : Chg p (p + 1) w wx := h.2.1
theorem Dst.start {w : World} {p K : Nat} (h : Src w p K) : Dst w p K [] w := ⟨h, Chg.refl _ _ _, Hs.nil w⟩
theorem Dst.call {w w1 w2 : World} {p K K2 : Nat} {L : List Itm} (h : Dst w p K L w1) (hp : p < w.heap.size) (hs : Src w2 p K2) (hc : Chg p (p + 1) w1 w2) : Dst w p K2 L w2 := ⟨hs, h.2.1.trans hc, h.2.2.chgP hc hp⟩
theorem Dst.below {w w1 w2 : World} {p K : Nat} {L : List Itm} (h : Dst w p K L w1) (hb : Below w1.heap.size w1 w2) : Dst w p K L w2 := ⟨h.1.below hb h.1.lt, h.2.1.then_below (hb.mono h.2.1.size), h.2.2.below hb⟩
theorem Dst.new {w w1 : World} {p K : Nat} {L : List Itm} (h : Dst w p K L w1) (cs : Array Value) (t : TypeId) : Dst w p K (L ++ [bx_ w1.heap.size cs t]) (w1.alloc (.cells cs t)) := ⟨(h.below (al1 w1 _)).1, (h.below (al1 w1 _)).2.1, h.2.2.join (al1 _ _) (hs_bx w1 cs t)⟩
theorem Dst.newAt {w w1 : World} {p K g : Nat} {L : List Itm} (h : Dst w p K L w1) (hg : g = w1.heap.size) (cs : Array Value) (t : TypeId) : Dst w p K (L ++ [bx_ g cs t]) (w1.alloc (.cells cs t)) := by subst hg; exact h.new cs t
theorem Dst.bx {w wx : World} {p K : Nat} (L1 : List Itm) {g : Nat} {cs : Array Value} {t : TypeId} (L2 : List Itm) (h : Dst w p K (L1 ++ bx_ g cs t :: L2) wx) : wx.heap[g]? = some (.cells cs t) ∧ w.heap.size ≤ g := by
  obtain ⟨S, ⟨a, b⟩, c, -⟩ := h.2.2.at_ L1 (bx_ g cs t) L2
  exact ⟨b, (c g a).1⟩
/-- A box is laid anew. -/
theorem Dst.put {w wx w' : World} {p K : Nat} (L1 : List Itm) {g : Nat} {cs cs' : Array Value} {t : TypeId} (L2 : List Itm) (h : Dst w p K (L1 ++ bx_ g cs t :: L2) wx) (hp : p < w.heap.size) (h1 : w'.heap[g]? = some (.cells cs' t)) (h2 : ∀ j, j ≠ g → w'.heap[j]? = wx.heap[j]?) (h3 : ∀ B, B ≤ g → Below B wx w') : Dst w p K (L1 ++ bx_ g cs' t :: L2) w' := by
  obtain ⟨S, ⟨a, b⟩, c, hput⟩ := h.2.2.at_ L1 (bx_ g cs t) L2
  have hb := h3 w.heap.size (c g a).1
  exact ⟨h.1.below hb hp, h.2.1.then_below hb, hput (bx_ g cs' t) w' ⟨a, h1⟩ ⟨hb.os, hb.tape, hb.output, hb.size, fun j _ hj2 => h2 j fun e => hj2 (by rw [e]; exact a)⟩⟩
theorem Dst.set {w wx : World} {p K : Nat} (L1 : List Itm) {g : Nat} {cs : Array Value} {t : TypeId} (L2 : List Itm) (h : Dst w p K (L1 ++ bx_ g cs t :: L2) wx) (hp : p < w.heap.size) (k : Nat) (x : Value) : Dst w p K (L1 ++ bx_ g (cs.setIfInBounds k x) t :: L2) (wx.setCell ⟨g, k, none⟩ x) :=
  h.put L1 L2 hp (heap_setCell_at x (h.bx L1 L2).1) (fun _ hj => Below.heap_setCell _ _ _ _ hj) fun _ hB => setB hB (Below.refl _ _)
theorem box8_set {w : World} {g : Nat} {b0 b1 b2 b3 b4 b5 b6 b7 : Value} {t : TypeId} (a0 a1 a2 a3 a4 a5 a6 a7 : Value) (hx : w.heap[g]? = some (.cells #[b0, b1, b2, b3, b4, b5, b6, b7] t)) :
    let W := (((((((w.setCell ⟨g, 0, none⟩ a0).setCell ⟨g, 1, none⟩ a1).setCell ⟨g, 2, none⟩ a2).setCell ⟨g, 3, none⟩ a3).setCell ⟨g, 4, none⟩ a4).setCell ⟨g, 5, none⟩ a5).setCell ⟨g, 6, none⟩ a6).setCell ⟨g, 7, none⟩ a7
    W.heap[g]? = some (.cells #[a0, a1, a2, a3, a4, a5, a6, a7] t) ∧ (∀ j, j ≠ g → W.heap[j]? = w.heap[j]?) ∧ ∀ B, B ≤ g → Below B w W := by
  intro W
  refine ⟨?_, fun j hj => ?_, fun B hB => setB hB (setB hB (setB hB (setB hB (setB hB (setB hB (setB hB (setB hB (Below.refl _ _))))))))⟩
  · have s0 := heap_setCell_at (k := 0) a0 hx
    have s1 := heap_setCell_at (k := 1) a1 s0
    have s2 := heap_setCell_at (k := 2) a2 s1
    have s3 := heap_setCell_at (k := 3) a3 s2
    have s4 := heap_setCell_at (k := 4) a4 s3
    have s5 := heap_setCell_at (k := 5) a5 s4
    have s6 := heap_setCell_at (k := 6) a6 s5
    have s7 := heap_setCell_at (k := 7) a7 s6
    simpa using s7
  · simp only [W]
    rw [Below.heap_setCell _ _ _ _ hj, Below.heap_setCell _ _ _ _ hj, Below.heap_setCell _ _ _ _ hj, Below.heap_setCell _ _ _ _ hj, Below.heap_setCell _ _ _ _ hj, Below.heap_setCell _ _ _ _ hj, Below.heap_setCell _ _ _ _ hj, Below.heap_setCell _ _ _ _ hj]
theorem Dst.set8 {w wx : World} {p K : Nat} (L1 : List Itm) {g : Nat} {b0 b1 b2 b3 b4 b5 b6 b7 : Value} {t : TypeId} (L2 : List Itm) (h : Dst w p K (L1 ++ bx_ g #[b0, b1, b2, b3, b4, b5, b6, b7] t :: L2) wx) (hp : p < w.heap.size) (a0 a1 a2 a3 a4 a5 a6 a7 : Value) :
    Dst w p K (L1 ++ bx_ g #[a0, a1, a2, a3, a4, a5, a6, a7] t :: L2) ((((((((wx.setCell ⟨g, 0, none⟩ a0).setCell ⟨g, 1, none⟩ a1).setCell ⟨g, 2, none⟩ a2).setCell ⟨g, 3, none⟩ a3).setCell ⟨g, 4, none⟩ a4).setCell ⟨g, 5, none⟩ a5).setCell ⟨g, 6, none⟩ a6).setCell ⟨g, 7, none⟩ a7) := by
  obtain ⟨e1, e2, e3⟩ := box8_set a0 a1 a2 a3 a4 a5 a6 a7 (h.bx L1 L2).1
  exact h.put L1 L2 hp e1 e2 e3
theorem Dst.set2 {w wx : World} {p K : Nat} (L1 : List Itm) {g : Nat} {b0 b1 : Value} {t : TypeId} (L2 : List Itm) (h : Dst w p K (L1 ++ bx_ g #[b0, b1] t :: L2) wx) (hp : p < w.heap.size) (a0 a1 : Value) :
    Dst w p K (L1 ++ bx_ g #[a0, a1] t :: L2) ((wx.setCell ⟨g, 0, none⟩ a0).setCell ⟨g, 1, none⟩ a1) := by
  have := (h.set L1 L2 hp 0 a0).set L1 L2 hp 1 a1
  simpa using this
theorem OwBox.old {w wx : World} {S : Nat → Prop} {g p : Nat} {m : Mac} (h : OwBox w S g m) (hS : ∀ j, S j → j < w.heap.size ∧ j ≠ p) (hc : Chg p (p + 1) w wx) : OwBox wx S g m := h.keep fun k q => hc.block k (hS k q).1 (by have := (hS k q).2; omega)
theorem boxN {w : World} {g : Nat} {a b : Value} {t : TypeId} (h : w.heap[g]? = some (.cells #[a, b] t)) :
    w.cell? ⟨g, 0, none⟩ = some a ∧ w.cell? ⟨g, 1, none⟩ = some b ∧ w.frozen? ⟨g, 0, none⟩ = false ∧ w.frozen? ⟨g, 1, none⟩ = false ∧ g < w.heap.size := box2 h
/-- What is read of the machine. -/
theorem OwBox.rdW {w wx : World} {S : Nat → Prop} {g p : Nat} {m : Mac} (h : OwBox w S g m) (hS : ∀ j, S j → j < w.heap.size ∧ j ≠ p) (hc : Chg p (p + 1) w wx) : wx.cell? ⟨g, 0, none⟩ = some (.int .i64 m.wd) ∧ wx.cell? ⟨g, 1, none⟩ = some (.int .i64 m.rk) ∧ g < wx.heap.size := by
  obtain ⟨f, b, c, l, d, hx, -, -⟩ := (h.old hS hc).rd (B := wx.heap.size) (fun k q => Nat.lt_of_lt_of_le (hS k q).1 hc.size)
  obtain ⟨⟨p0, p1, -⟩, -, hl⟩ := box7 hx
  exact ⟨p0, p1, hl⟩
set_option maxRecDepth 100000 in
set_option maxHeartbeats 1600000 in
theorem l01DrawNeedle_any (n : Int) (p K : Nat) (w : World) (h : Src w p K) (hK : K ≤ 999990000) :
    Calls Tryz.prog 110 #[.pointer (some ⟨p, 0, none⟩), .int .i64 n] w fun e w' => ∃ b a : Int, e = .returned (.agg #[.int .i64 b, .int .i64 a]) ∧ (b = 1 ∨ b = 2) ∧ 0 ≤ a ∧ (a = 0 ∨ a < n) ∧ Src w' p (K + 2 + 2) ∧ Chg p (p + 1) w w' := by
  have hp := h.lt
  have D1 := ((Dst.start h).new #[.int .i64 0, .int .i64 0] 36).newAt (g := w.heap.size + 1) (by simp) #[.int .i64 1, .int .i64 0] 36
  have hs1 := D1.src
  have HD1 := Lib.hid D1
  clear D1 h
  go_enter Tryz.func110, Tryz.ntmps110
  go_wp2_with fail
  refine (one_any 2 p _ _ hs1 (by omega)).mono ?_
  rintro e w2 ⟨x, rfl, hs2, hc2⟩
  have D2 := HD1.out.call hp hs2 hc2
  clear HD1 hs1 hs2 hc2
  cases x
  · have D3 := D2
    clear D2
    obtain ⟨q0, q1, f0, f1, -⟩ := boxN (D3.bx [_] []).1
    have D3' := Lib.hid D3
    have hs3 := D3.src
    clear D3
    go_wp2_with fail
    refine (pick_any n p _ _ hs3 (by omega)).mono ?_
    rintro e w4 ⟨a, rfl, g0, g1, hs4, hc4⟩
    clear q0 q1 f0 f1 hs3
    have D4 := D3'.out.call hp hs4 hc4
    clear hs4 hc4 D3'
    obtain ⟨q0, q1, f0, f1, -⟩ := boxN (D4.bx [_] []).1
    have D5 := D4.set [_] [] hp 1 (.int .i64 a)
    obtain ⟨s0, s1, -, -, -⟩ := boxN (a := .int .i64 1) (b := .int .i64 a) (D5.bx [_] []).1
    obtain ⟨r0, r1, rf0, rf1, -⟩ := boxN (D5.bx [] [_]).1
    have D6 := D5.set2 [] [_] hp (.int .i64 1) (.int .i64 a)
    obtain ⟨e0, e1, -, -, -⟩ := boxN (D6.bx [] [_]).1
    have HD6 := Lib.hid D6
    clear D4 D5 D6
    go_wp2_with fail
    refine bodyPost_ret (v := .agg #[.int .i64 1, .int .i64 a]) (by simp [results, Tryz.results110, go_sem, e0, e1]) rfl ?_
    exact ⟨1, a, rfl, by omega, g0, g1, HD6.out.src, HD6.out.chg⟩
  · obtain ⟨t0, t1, tf0, tf1, -⟩ := boxN (D2.bx [_] []).1
    have D3 := D2.set [_] [] hp 0 (.int .i64 2)
    clear D2
    have hs3 := D3.src
    have D3' := Lib.hid D3
    clear D3
    go_wp2_with fail
    clear t0 t1 tf0 tf1
    generalize hW : World.setCell w2 _ _ = W3 at *
    have D3 : Dst w p _ [_, bx_ _ #[.int .i64 2, .int .i64 0] 36] W3 := D3'.out
    clear hW D3'
    obtain ⟨q0, q1, f0, f1, -⟩ := boxN (D3.bx [_] []).1
    have D3' := Lib.hid D3
    clear D3
    refine (pick_any n p _ _ hs3 (by omega)).mono ?_
    rintro e w4 ⟨a, rfl, g0, g1, hs4, hc4⟩
    clear q0 q1 f0 f1 hs3
    have D4 := D3'.out.call hp hs4 hc4
    clear hs4 hc4 D3'
    obtain ⟨q0, q1, f0, f1, -⟩ := boxN (D4.bx [_] []).1
    have D5 := D4.set [_] [] hp 1 (.int .i64 a)
    obtain ⟨s0, s1, -, -, -⟩ := boxN (a := .int .i64 2) (b := .int .i64 a) (D5.bx [_] []).1
    obtain ⟨r0, r1, rf0, rf1, -⟩ := boxN (D5.bx [] [_]).1
    have D6 := D5.set2 [] [_] hp (.int .i64 2) (.int .i64 a)
    obtain ⟨e0, e1, -, -, -⟩ := boxN (D6.bx [] [_]).1
    have HD6 := Lib.hid D6
    clear D4 D5 D6
    go_wp2_with fail
    refine bodyPost_ret (v := .agg #[.int .i64 2, .int .i64 a]) (by simp [results, Tryz.results110, go_sem, e0, e1]) rfl ?_
    exact ⟨2, a, rfl, by omega, g0, g1, HD6.out.src, HD6.out.chg⟩
theorem chg_cell {p : Nat} {w w' : World} (h : Chg p (p + 1) w w') {a : Addr} (h1 : a.block < w.heap.size) (h2 : a.block ≠ p) : w'.cell? a = w.cell? a := World.cell?_of_block (h.block a.block h1 (by omega))
theorem cg_drew {lo hi : Nat} {a w : World} (h : Chg lo hi a w) : Chg lo hi a w.drew := ⟨h.os, h.tape, h.output, h.size, h.block⟩
theorem cg_alloc {p : Nat} {w w1 : World} (h : Chg p (p + 1) w w1) (o : Obj) : Chg p (p + 1) w (w1.alloc o) := h.then_below ((al1 w1 o).mono h.size)
theorem cg_set {p : Nat} {w w1 : World} {a : Addr} {x : Value} (ha : w.heap.size ≤ a.block) (h : Chg p (p + 1) w w1) : Chg p (p + 1) w (w1.setCell a x) := h.then_below (setB ha (Below.refl _ _))
theorem cg_undrew {lo hi : Nat} {a w : World} (h : Chg lo hi a.drew w) : Chg lo hi a w := ⟨h.os, h.tape, h.output, h.size, h.block⟩
theorem cg_undrewN {lo hi n : Nat} {a w : World} (h : Chg lo hi (a.drewN n) w) : Chg lo hi a w := ⟨h.os, h.tape, h.output, h.size, h.block⟩
theorem cg_undrewA {lo hi : Nat} {a w : World} {o : Obj} (h : Chg lo hi (a.drew.alloc o) w) : Chg lo hi (a.alloc o) w := ⟨h.os, h.tape, h.output, h.size, h.block⟩
theorem cg_undrewNA {lo hi n : Nat} {a w : World} {o : Obj} (h : Chg lo hi ((a.drewN n).alloc o) w) : Chg lo hi (a.alloc o) w := ⟨h.os, h.tape, h.output, h.size, h.block⟩
theorem dOk_form {m : Mac} {k d b a c : Int} (hk : k = 1 ∨ k = 2 ∨ k = 3) (hd : d = 1 ∨ d = -1) (hb : b = 1 ∨ b = 2) (h0 : 0 ≤ a) (h1 : a < m.wd) (hw : 1 ≤ m.wd ∧ m.wd ≤ 24) (hc : c = 1 ∨ c = 2) : OpOk m [k, d, b, a, 0, 0, c, 0] := by
  refine ⟨?_, h1, by show (0 : Int) < m.wd; omega⟩
  have h2 : a ≤ 23 := by omega
  rcases hk with rfl | rfl | rfl <;> rcases hd with rfl | rfl <;> rcases hb with rfl | rfl <;> rcases hc with rfl | rfl <;> simp [opB, gi, vOp, dirB, ndlB, bedB, inR, h0, h2]
theorem dOk_split {m : Mac} {d b a t c : Int} (hd : d = 1 ∨ d = -1) (hb : b = 1 ∨ b = 2) (h0 : 0 ≤ a) (h1 : a < m.wd) (t0 : 0 ≤ t) (t1 : t < m.wd) (hw : m.wd ≤ 24) (hc : c = 1 ∨ c = 2) : OpOk m [5, d, b, a, 3 - b, t, c, 0] := by
  refine ⟨?_, h1, t1⟩
  have h2 : a ≤ 23 := by omega
  have t2 : t ≤ 23 := by omega
  rcases hd with rfl | rfl <;> rcases hb with rfl | rfl <;> rcases hc with rfl | rfl <;> simp [opB, gi, vOp, dirB, pairB, ndlB, bedB, inR, h0, h2, t0, t2]
theorem dOk_xfer {m : Mac} {b a t : Int} (hb : b = 1 ∨ b = 2) (h0 : 0 ≤ a) (h1 : a < m.wd) (t0 : 0 ≤ t) (t1 : t < m.wd) (hw : m.wd ≤ 24) : OpOk m [4, 0, b, a, 3 - b, t, 0, 0] := by
  refine ⟨?_, h1, t1⟩
  have h2 : a ≤ 23 := by omega
  have t2 : t ≤ 23 := by omega
  rcases hb with rfl | rfl <;> simp [opB, gi, vOp, pairB, ndlB, bedB, inR, h0, h2, t0, t2]
theorem dOk_drop {m : Mac} {b a : Int} (hb : b = 1 ∨ b = 2) (h0 : 0 ≤ a) (h1 : a < m.wd) (hw : m.wd ≤ 24) : OpOk m [6, 0, b, a, 0, 0, 0, 0] := by
  refine ⟨?_, h1, by show (0 : Int) < m.wd; omega⟩
  have h2 : a ≤ 23 := by omega
  rcases hb with rfl | rfl <;> simp [opB, gi, vOp, ndlB, bedB, inR, h0, h2]
theorem dOk_rack {m : Mac} {x : Int} (h0 : -3 ≤ x) (h1 : x ≤ 3) (hw : 1 ≤ m.wd) : OpOk m [7, 0, 0, 0, 0, 0, 0, x] := by
  refine ⟨?_, by show (0 : Int) < m.wd; omega, by show (0 : Int) < m.wd; omega⟩
  simp [opB, gi, vOp, inR, h0, h1]
theorem dOk_in {m : Mac} {c : Int} (hc : c = 1 ∨ c = 2) (hw : 1 ≤ m.wd) : OpOk m [8, 1, 0, 0, 0, 0, c, 0] := by
  refine ⟨?_, by show (0 : Int) < m.wd; omega, by show (0 : Int) < m.wd; omega⟩
  rcases hc with rfl | rfl <;> simp [opB, gi, vOp, dirB, inR]
theorem dOk_out {m : Mac} {c : Int} (hc : c = 1 ∨ c = 2) (hw : 1 ≤ m.wd) : OpOk m [9, 0, 0, 0, 0, 0, c, 0] := by
  refine ⟨?_, by show (0 : Int) < m.wd; omega, by show (0 : Int) < m.wd; omega⟩
  rcases hc with rfl | rfl <;> simp [opB, gi, vOp, inR]
theorem spec_OtherBed_any {b : Int} (w : World) (h : b = 1 ∨ b = 2) : Calls Tryz.prog 112 #[.int .i64 b] w fun e w' => e = .returned (.int .i64 (3 - b)) ∧ w = w' := by
  rcases h with rfl | rfl
  · go_enter Tryz.func112, Tryz.ntmps112
    go_wp2_with (go_at_call 135; refine (l01Bed_any _ _).mono ?_; rintro e w' ⟨rfl, rfl⟩)
    go_ret
    exact ⟨rfl, rfl⟩
  · go_enter Tryz.func112, Tryz.ntmps112
    go_wp2_with (go_at_call 135; refine (l01Bed_any _ _).mono ?_; rintro e w' ⟨rfl, rfl⟩)
    go_ret
    exact ⟨rfl, rfl⟩
set_option maxRecDepth 100000 in
set_option maxHeartbeats 12800000 in
theorem l07DrawOp_any {w : World} {S : Nat → Prop} {g p K : Nat} {m : Mac} (h : Src w p K) (hK : K ≤ 999990000) (hx : OwBox w S g m) (hS : ∀ j, S j → j < w.heap.size ∧ j ≠ p) (hok : OkM m) :
    Calls Tryz.prog 80 #[.pointer (some ⟨p, 0, none⟩), .pointer (some ⟨g, 0, none⟩)] w fun e w' => ∃ o, e = .returned (op8 o) ∧ o.length = 8 ∧ OpOk m o ∧ Src w' p (K + 20) ∧ Chg p (p + 1) w w' := by
  have hp := h.lt
  obtain ⟨hwd0, hwd1⟩ := hok.wd
  obtain ⟨hrk0, hrk1⟩ := hok.rk
  have HX := Lib.hid hx
  have HS := Lib.hid hS
  have HOK := Lib.hid hok
  have D1 := (Dst.start h).new #[.int .i64 0, .int .i64 0, .int .i64 0, .int .i64 0, .int .i64 0, .int .i64 0, .int .i64 0, .int .i64 0] 38
  have hs1 := D1.src
  obtain ⟨u0, u1, ug⟩ := HX.out.rdW HS.out D1.chg
  have HD1 := Lib.hid D1
  clear D1 h hx hS hok
  go_enter Tryz.func80, Tryz.ntmps80
  go_wp2_with fail
  refine (l01DrawNeedle_any m.wd p _ _ hs1 (by omega)).mono ?_
  rintro e w2 ⟨bed, at_, rfl, hbed, ha0, ha1, hs2, hc2⟩
  have D2 := (HD1.out.call hp hs2 hc2).new #[.int .i64 bed, .int .i64 at_] 36
  have hat : at_ < m.wd := by omega
  clear HD1 hs1 hs2 hc2 u0 u1 ug ha1
  go_upto_region 2 with fail
  generalize hbn : w2.heap.size = bn at *
  generalize hW : w2.alloc (.cells #[.int .i64 bed, .int .i64 at_] 36) = w3 at *
  clear hW hbn
  have D3 : Dst w p (K + 4) [bx_ w.heap.size #[.int .i64 0, .int .i64 0, .int .i64 0, .int .i64 0, .int .i64 0, .int .i64 0, .int .i64 0, .int .i64 0] 38, bx_ bn #[.int .i64 bed, .int .i64 at_] 36] w3 := D2
  clear D2
  go_cut [6] (fun s6 wx => ∃ (bo : Nat) (cI : Int), s6 = .pointer (some ⟨bo, 0, none⟩) ∧ (cI = 1 ∨ cI = 2) ∧ Dst w p (K + 6) [bx_ w.heap.size #[.int .i64 0, .int .i64 0, .int .i64 0, .int .i64 0, .int .i64 0, .int .i64 0, .int .i64 0, .int .i64 0] 38, bx_ bn #[.int .i64 bed, .int .i64 at_] 36, bx_ bo #[.int .i64 1, .int .i64 0, .int .i64 bed, .int .i64 at_, .int .i64 0, .int .i64 0, .int .i64 cI, .int .i64 0] 38] wx)
  case first =>
    obtain ⟨q0, q1, -, -, -⟩ := boxN (D3.bx [_] []).1
    have hs3 := D3.src
    have hb3 := (D3.bx [_] []).2
    have hl3 := heap_lt (D3.bx [_] []).1
    have HD3 := Lib.hid D3
    have HK := Lib.hid (fun w' (hw : Chg p (p + 1) w3 w') => show w'.cell? ⟨bn, 0, none⟩ = some (.int .i64 bed) ∧ w'.cell? ⟨bn, 1, none⟩ = some (.int .i64 at_) ∧ Chg p (p + 1) w3 w' from
      ⟨(chg_cell hw hl3 (by simp only; omega)).trans q0, (chg_cell hw hl3 (by simp only; omega)).trans q1, hw⟩)
    clear D3 q0 q1
    go_region_held3 (fun w' => w'.cell? ⟨bn, 0, none⟩ = some (.int .i64 bed) ∧ w'.cell? ⟨bn, 1, none⟩ = some (.int .i64 at_) ∧ Chg p (p + 1) w3 w') (exact HK.out _ (by (repeat (first | with_reducible assumption | with_reducible exact Chg.refl _ _ _ | with_reducible refine cg_drew ?_ | with_reducible refine chg_drewN ?_ _ | with_reducible refine cg_alloc ?_ _ | with_reducible refine cg_set (by simp only; omega) ?_)); done))
      (first
        | (go_at_call 79; (refine (pick_any 2 p _ _ (hs3.below (show Below w3.heap.size w3 _ by go_grown) hs3.lt) (by omega)).mono ?_); rintro e w5 ⟨y, rfl, y0, y1, hs5, hc5⟩; have hr5 : Chg p (p + 1) w3 w5 := Chg.trans (by (repeat (first | with_reducible assumption | with_reducible exact Chg.refl _ _ _ | with_reducible refine cg_drew ?_ | with_reducible refine chg_drewN ?_ _ | with_reducible refine cg_alloc ?_ _ | with_reducible refine cg_set (by simp only; omega) ?_)); done) hc5; have hwr : IntKind.i64.wrap (1 + y) = 1 + y := IntWalk.i64_in _ (by omega); (first | (have hcA : Chg p (p + 1) (w3.alloc (.cells #[.int .i64 0, .int .i64 0, .int .i64 0, .int .i64 0, .int .i64 0, .int .i64 0, .int .i64 0, .int .i64 0] 38)) w5 := (by with_reducible first | exact hc5 | exact cg_undrew hc5 | exact cg_undrewN hc5 | exact cg_undrewA hc5 | exact cg_undrewNA hc5); have dz := (hcA.block w3.heap.size (by simp) (by omega)).trans (alloc_at_ w3 _); obtain ⟨⟨z0, z1, z2, z3, z4, z5, z6, z7⟩, zf, -⟩ := box8 dz; have zf0 := zf 0; have zf1 := zf 1; have zf2 := zf 2; have zf3 := zf 3; have zf4 := zf 4; have zf5 := zf 5; have zf6 := zf 6; have zf7 := zf 7; clear zf dz) | skip)))
    · have D5 := (HD3.out.call hp hs5 hr5).new #[.int .i64 1, .int .i64 0, .int .i64 bed, .int .i64 at_, .int .i64 0, .int .i64 0, .int .i64 (1 + y), .int .i64 0] 38
      go_wp2_with fail
      go_meet
      exact ⟨_, 1 + y, rfl, by omega, D5⟩
    · have hcB : Chg p (p + 1) (w3.alloc (.cells #[.int .i64 0, .int .i64 0, .int .i64 0, .int .i64 0, .int .i64 0, .int .i64 0, .int .i64 0, .int .i64 0] 38)) w5 := hcA
      have D5 := Dst.set8 [_, _] [] ((HD3.out.new #[.int .i64 0, .int .i64 0, .int .i64 0, .int .i64 0, .int .i64 0, .int .i64 0, .int .i64 0, .int .i64 0] 38).call hp hs5 hcB) hp (.int .i64 (1)) (.int .i64 (0)) (.int .i64 (bed)) (.int .i64 (at_)) (.int .i64 (0)) (.int .i64 (0)) (.int .i64 (1 + y)) (.int .i64 (0))
      go_wp2_with fail
      go_meet
      exact ⟨_, 1 + y, rfl, by omega, D5⟩
  case rest =>
    obtain ⟨bo, cI, rfl, hcI, D4⟩ := hcut
    obtain ⟨w4, hwc⟩ : ∃ x, x = wc := ⟨_, rfl⟩
    subst hwc
    clear D3
    obtain ⟨Kc, hKc⟩ : ∃ Kc : Nat, cI = (Kc : Int) + 1 := ⟨(cI - 1).toNat, by omega⟩
    have hKb : Kc ≤ 1 := by omega
    have hwr : IntKind.i64.wrap (cI - 1) = (Kc : Int) := by rw [IntWalk.i64_in _ (by omega)]; omega
    have hK0 : (0 : Int) ≤ (Kc : Int) := by omega
    have hK4 : (Kc : Int) < 4 := by omega
    obtain ⟨f, b, c, l, d, hxg, hsl, -⟩ := (HX.out.old HS.out D4.chg).rd (B := w4.heap.size) (fun k q => Nat.lt_of_lt_of_le (HS.out k q).1 D4.chg.size)
    have hcr := HOK.out.cr
    obtain ⟨cp, co, ccap, hce, hcl, k0, k1⟩ := hsl.cr.at_ Kc (by omega)
    rw [hcr] at hce
    subst hce
    obtain ⟨⟨u0, u1, -, -, u4, -, -⟩, -, hgl⟩ := box7 hxg
    have hci := HOK.out.cs (gc m.cr Kc) (by rw [gc_eq (by omega)]; exact List.getElem_mem _)
    simp only [crOk, Bool.and_eq_true, inR_iff] at hci
    obtain ⟨⟨hc0, hc1⟩, -⟩ := hci
    obtain ⟨cin, hcin⟩ : ∃ x, x = (gc m.cr Kc).1 := ⟨_, rfl⟩
    obtain ⟨cat, hcat⟩ : ∃ x, x = (gc m.cr Kc).2 := ⟨_, rfl⟩
    rw [← hcin] at k0
    rw [← hcat] at k1 hc0 hc1
    clear hcin hcat hsl hxg hcr hKc
    obtain ⟨⟨o0, o1, o2, o3, o4, o5, o6, o7⟩, -, -⟩ := box8 (D4.bx [_, _] []).1
    have HD4 := Lib.hid D4
    have hl4 := heap_lt (D4.bx [_, _] []).1
    clear o0 o1 o2 o3 o4 o5 o7
    go_upto_region 3 with fail
    go_cut [7] (fun s7 wx => ∃ bc : Nat, s7 = .pointer (some ⟨bc, 0, none⟩) ∧ Dst w p (K + 6) [bx_ w.heap.size #[.int .i64 0, .int .i64 0, .int .i64 0, .int .i64 0, .int .i64 0, .int .i64 0, .int .i64 0, .int .i64 0] 38, bx_ bn #[.int .i64 bed, .int .i64 at_] 36, bx_ bo #[.int .i64 1, .int .i64 0, .int .i64 bed, .int .i64 at_, .int .i64 0, .int .i64 0, .int .i64 cI, .int .i64 0] 38, bx_ bc #[.bool cin, .int .i64 cat] 126] wx)
    case first =>
      have HK := Lib.hid (fun w' (hw : Below w4.heap.size w4 w') => show w'.cell? ⟨g, 4, none⟩ = some (.slice (some ⟨cp, co, none⟩) 4 ccap) ∧ w'.cell? ⟨bo, 6, none⟩ = some (.int .i64 cI) ∧ w'.cell? ⟨cp, co + Kc * 2, none⟩ = some (.bool cin) ∧ w'.cell? ⟨cp, co + Kc * 2 + 1, none⟩ = some (.int .i64 cat) ∧ Below w4.heap.size w4 w' from
        ⟨(hw.cell (by simp only; omega)).trans u4, (hw.cell (by simp only; omega)).trans o6, (hw.cell (by simp only; omega)).trans k0, (hw.cell (by simp only; omega)).trans k1, hw⟩)
      clear D4
      go_region_held3 (fun w' => w'.cell? ⟨g, 4, none⟩ = some (.slice (some ⟨cp, co, none⟩) 4 ccap) ∧ w'.cell? ⟨bo, 6, none⟩ = some (.int .i64 cI) ∧ w'.cell? ⟨cp, co + Kc * 2, none⟩ = some (.bool cin) ∧ w'.cell? ⟨cp, co + Kc * 2 + 1, none⟩ = some (.int .i64 cat) ∧ Below w4.heap.size w4 w') (exact HK.out _ (by first | with_reducible assumption | with_reducible exact Below.refl _ _ | with_reducible exact below_drewN (Below.refl _ _) _ | with_reducible exact (Below.refl _ _).drew | go_grown)) (fail)
      all_goals
        go_wp2_with fail
        go_meet
        exact ⟨_, rfl, (HD4.out.new #[.bool cin, .int .i64 cat] 126).below (Below.refl _ _).drew⟩
    case rest =>
      obtain ⟨bc, rfl, D5⟩ := hcut
      obtain ⟨w5, hwc⟩ : ∃ x, x = wc := ⟨_, rfl⟩
      subst hwc
      clear D4 HD4 u0 u1 u4 k0 k1 o6 hl4 hcl hgl hK0 hK4 hwr
      obtain ⟨⟨o0, o1, o2, o3, o4, o5, o6, o7⟩, tfz, -⟩ := box8 (D5.bx [_, _] [_]).1
      have of0 := tfz 0
      have of1 := tfz 1
      have of2 := tfz 2
      have of3 := tfz 3
      have of4 := tfz 4
      have of5 := tfz 5
      have of6 := tfz 6
      have of7 := tfz 7
      clear tfz
      clear o0 o2 o3 o4 o5 o6 o7 of0 of2 of3 of4 of5 of6 of7
      have D6 := D5.set [_, _] [_] hp 1 (.int .i64 (-1))
      have HD6 := Lib.hid (show Dst w p (K + 6) [bx_ w.heap.size #[.int .i64 0, .int .i64 0, .int .i64 0, .int .i64 0, .int .i64 0, .int .i64 0, .int .i64 0, .int .i64 0] 38, bx_ bn #[.int .i64 bed, .int .i64 at_] 36, bx_ bo #[.int .i64 1, .int .i64 (-1), .int .i64 bed, .int .i64 at_, .int .i64 0, .int .i64 0, .int .i64 cI, .int .i64 0] 38, bx_ bc #[.bool cin, .int .i64 cat] 126] _ from D6)
      clear D5 D6
      go_upto_region 5 with fail
      clear o1 of1
      generalize hW : World.setCell w5 _ _ = w6 at *
      have D6 : Dst w p (K + 6) [bx_ w.heap.size #[.int .i64 0, .int .i64 0, .int .i64 0, .int .i64 0, .int .i64 0, .int .i64 0, .int .i64 0, .int .i64 0] 38, bx_ bn #[.int .i64 bed, .int .i64 at_] 36, bx_ bo #[.int .i64 1, .int .i64 (-1), .int .i64 bed, .int .i64 at_, .int .i64 0, .int .i64 0, .int .i64 cI, .int .i64 0] 38, bx_ bc #[.bool cin, .int .i64 cat] 126] w6 := HD6.out
      clear hW HD6
      obtain ⟨u0, u1, hgl⟩ := HX.out.rdW HS.out D6.chg
      obtain ⟨q0, q1, -, -, -⟩ := boxN (D6.bx [_] [_, _]).1
      obtain ⟨c0, c1, -, -, hcl⟩ := boxN (D6.bx [_, _, _] []).1
      have hnl := heap_lt (D6.bx [_] [_, _]).1
      have HD6 := Lib.hid D6
      have HPL := Lib.hid (fun W => l07Place_any bed at_ m.rk W ⟨ha0, by omega⟩ ⟨hrk0, hrk1⟩)
      have HK := Lib.hid (fun w' (hw : Below w6.heap.size w6 w') => show w'.cell? ⟨bc, 1, none⟩ = some (.int .i64 cat) ∧ w'.cell? ⟨bn, 0, none⟩ = some (.int .i64 bed) ∧ w'.cell? ⟨bn, 1, none⟩ = some (.int .i64 at_) ∧ w'.cell? ⟨g, 1, none⟩ = some (.int .i64 m.rk) ∧ Below w6.heap.size w6 w' from
        ⟨(hw.cell (by simp only; omega)).trans c1, (hw.cell (by simp only; omega)).trans q0, (hw.cell (by simp only; omega)).trans q1, (hw.cell (by simp only; omega)).trans u1, hw⟩)
      clear D6
      obtain ⟨pl, hpl⟩ : ∃ x, x = plc bed at_ m.rk := ⟨_, rfl⟩
      rw [← hpl] at HPL
      clear hpl
      go_region_held3 (fun w' => w'.cell? ⟨bc, 1, none⟩ = some (.int .i64 cat) ∧ w'.cell? ⟨bn, 0, none⟩ = some (.int .i64 bed) ∧ w'.cell? ⟨bn, 1, none⟩ = some (.int .i64 at_) ∧ w'.cell? ⟨g, 1, none⟩ = some (.int .i64 m.rk) ∧ Below w6.heap.size w6 w') (exact HK.out _ (by first | with_reducible assumption | with_reducible exact Below.refl _ _ | with_reducible exact below_drewN (Below.refl _ _) _ | with_reducible exact (Below.refl _ _).drew | go_grown))
        (first
          | (go_at_call 111; (refine (HPL.out _).mono ?_); rintro e w7 ⟨rfl, hq⟩; have hr7 : Below w6.heap.size w6 w7 := Below.trans (by first | with_reducible assumption | with_reducible exact Below.refl _ _ | with_reducible exact below_drewN (Below.refl _ _) _ | with_reducible exact (Below.refl _ _).drew | go_grown) (hq.mono (Below.size (w := w6) (B := w6.heap.size) (by first | with_reducible assumption | with_reducible exact Below.refl _ _ | with_reducible exact below_drewN (Below.refl _ _) _ | with_reducible exact (Below.refl _ _).drew | go_grown))); have hr8 := hr7))
      have D7 := HD6.out.below hr7
      have HD7 := Lib.hid D7
      clear HK HD6 HPL c0 c1 q0 q1 u0 u1 hgl hcl hnl hq hr8 hr7
      go_upto_if 39 with fail
      go_cut [] (fun wx => ∃ d : Int, (d = 1 ∨ d = -1) ∧ Dst w p (K + 6) [bx_ w.heap.size #[.int .i64 0, .int .i64 0, .int .i64 0, .int .i64 0, .int .i64 0, .int .i64 0, .int .i64 0, .int .i64 0] 38, bx_ bn #[.int .i64 bed, .int .i64 at_] 36, bx_ bo #[.int .i64 1, .int .i64 d, .int .i64 bed, .int .i64 at_, .int .i64 0, .int .i64 0, .int .i64 cI, .int .i64 0] 38, bx_ bc #[.bool cin, .int .i64 cat] 126] wx)
      case first =>
        obtain ⟨⟨o0, o1, o2, o3, o4, o5, o6, o7⟩, tfz, -⟩ := box8 (D7.bx [_, _] [_]).1
        have of0 := tfz 0
        have of1 := tfz 1
        have of2 := tfz 2
        have of3 := tfz 3
        have of4 := tfz 4
        have of5 := tfz 5
        have of6 := tfz 6
        have of7 := tfz 7
        clear tfz
        have D8 := D7.set [_, _] [_] hp 1 (.int .i64 1)
        clear D7 o0 o2 o3 o4 o5 o6 o7 of0 of2 of3 of4 of5 of6 of7
        have HD8 := Lib.hid D8
        clear D8
        by_cases hle : cat ≤ pl
        · go_wp2_with fail
          go_meet
          exact ⟨1, .inl rfl, HD8.out⟩
        · go_wp2_with fail
          go_meet
          exact ⟨-1, .inr rfl, HD7.out⟩
      case rest =>
        obtain ⟨dd, hd, D8⟩ := hcut
        obtain ⟨w8, hwc⟩ : ∃ x, x = wc := ⟨_, rfl⟩
        subst hwc
        clear D7 HD7
        have hs8 := D8.src
        have HD8 := Lib.hid D8
        clear D8
        go_wp2_with fail
        refine (pick_any 12 p _ _ hs8 (by omega)).mono ?_
        rintro e w9 ⟨k, rfl, k0, k1, hs9, hc9⟩
        have D9 := HD8.out.call hp hs9 hc9
        clear HD8 hs8 hs9 hc9
        obtain ⟨c0, c1, -, -, hcl⟩ := boxN (D9.bx [_, _, _] []).1
        have HD9 := Lib.hid D9
        clear D9
        have hk12 : k < 12 := by omega
        obtain ⟨bt_, hbt_⟩ : ∃ x : Bool, x = (!cin && decide (k < 6)) := ⟨_, rfl⟩
        have HBT := Lib.hid hbt_
        clear hbt_ c1 k1
        go_upto_region 8 with fail
        go_cut [49] (fun s49 wx => s49 = .bool bt_ ∧ wx = w9)
        case first =>
          have HB2 := HBT.out
          cases cin
          · by_cases hk6 : k < 6
            · have hb3 : bt_ = true := by rw [HB2]; simp [hk6]
              subst hb3
              clear HBT HB2
              go_wp2_with fail
              go_meet
              exact ⟨rfl, rfl⟩
            · have hb3 : bt_ = false := by rw [HB2]; simp [hk6]
              subst hb3
              clear HBT HB2
              go_wp2_with fail
              go_meet
              exact ⟨rfl, rfl⟩
          · have hb3 : bt_ = false := by rw [HB2]; simp
            subst hb3
            clear HBT HB2
            go_wp2_with fail
            go_meet
            exact ⟨rfl, rfl⟩
        case rest =>
          obtain ⟨rfl, hwe⟩ := hcut
          subst hwe
          obtain ⟨w9, hwc⟩ : ∃ x, x = wc := ⟨_, rfl⟩
          subst hwc
          clear c0 hcl
          have D9 := HD9.out
          clear HD9
          cases bt_
          · go_upto_region 10 with fail
            go_cut [9] (fun s9 wx => ∃ bt : Nat, s9 = .pointer (some ⟨bt, 0, none⟩) ∧ Dst w p (K + 8) [bx_ w.heap.size #[.int .i64 0, .int .i64 0, .int .i64 0, .int .i64 0, .int .i64 0, .int .i64 0, .int .i64 0, .int .i64 0] 38, bx_ bn #[.int .i64 bed, .int .i64 at_] 36, bx_ bo #[.int .i64 1, .int .i64 dd, .int .i64 bed, .int .i64 at_, .int .i64 0, .int .i64 0, .int .i64 cI, .int .i64 0] 38, bx_ bc #[.bool cin, .int .i64 cat] 126, bx_ bt #[.int .i64 (3 - bed), .int .i64 (at_ - m.rk)] 36] wx)
            case first =>
              obtain ⟨u0, u1, hgl⟩ := HX.out.rdW HS.out D9.chg
              obtain ⟨q0, q1, -, -, -⟩ := boxN (D9.bx [_] [_, _]).1
              have hnl := heap_lt (D9.bx [_] [_, _]).1
              have HD9 := Lib.hid D9
              have HK := Lib.hid (fun w' (hw : Below w9.heap.size w9 w') => show w'.cell? ⟨bn, 0, none⟩ = some (.int .i64 bed) ∧ w'.cell? ⟨bn, 1, none⟩ = some (.int .i64 at_) ∧ w'.cell? ⟨g, 1, none⟩ = some (.int .i64 m.rk) ∧ Below w9.heap.size w9 w' from
                ⟨(hw.cell (by simp only; omega)).trans q0, (hw.cell (by simp only; omega)).trans q1, (hw.cell (by simp only; omega)).trans u1, hw⟩)
              have hwr2 : IntKind.i64.wrap (at_ - m.rk) = at_ - m.rk := IntWalk.i64_in _ (by omega)
              clear D9 q0 q1 u0 u1
              go_region_held3 (fun w' => w'.cell? ⟨bn, 0, none⟩ = some (.int .i64 bed) ∧ w'.cell? ⟨bn, 1, none⟩ = some (.int .i64 at_) ∧ w'.cell? ⟨g, 1, none⟩ = some (.int .i64 m.rk) ∧ Below w9.heap.size w9 w') (exact HK.out _ (by first | with_reducible assumption | with_reducible exact Below.refl _ _ | with_reducible exact below_drewN (Below.refl _ _) _ | with_reducible exact (Below.refl _ _).drew | go_grown))
                (first | (go_at_call 112; (refine (spec_OtherBed_any _ hbed).mono ?_); rintro e w' ⟨rfl, rfl⟩))
              all_goals
                go_wp2_with fail
                go_meet
                exact ⟨_, rfl, (HD9.out.new #[.int .i64 (3 - bed), .int .i64 (at_ - m.rk)] 36).below (Below.refl _ _).drew⟩
            case rest =>
              obtain ⟨bt, rfl, D10⟩ := hcut
              obtain ⟨w10, hwc⟩ : ∃ x, x = wc := ⟨_, rfl⟩
              subst hwc
              clear D9
              obtain ⟨q0, q1, -, -, -⟩ := boxN (D10.bx [_] [_, _, _]).1
              have HD10 := Lib.hid D10
              clear D10
              go_upto_if 66 with fail
              go_cut [] (fun wx => ∃ ta : Int, (-30 ≤ ta ∧ ta ≤ 30) ∧ Dst w p (K + 8) [bx_ w.heap.size #[.int .i64 0, .int .i64 0, .int .i64 0, .int .i64 0, .int .i64 0, .int .i64 0, .int .i64 0, .int .i64 0] 38, bx_ bn #[.int .i64 bed, .int .i64 at_] 36, bx_ bo #[.int .i64 1, .int .i64 dd, .int .i64 bed, .int .i64 at_, .int .i64 0, .int .i64 0, .int .i64 cI, .int .i64 0] 38, bx_ bc #[.bool cin, .int .i64 cat] 126, bx_ bt #[.int .i64 (3 - bed), .int .i64 ta] 36] wx)
              case first =>
                have D10 := HD10.out
                obtain ⟨u0, u1, hgl⟩ := HX.out.rdW HS.out D10.chg
                obtain ⟨t0, t1, tf0, tf1, htl⟩ := boxN (D10.bx [_, _, _, _] []).1
                rcases hbed with rfl | rfl
                · clear D10
                  go_wp2_with fail
                  go_meet
                  exact ⟨at_ - m.rk, by omega, HD10.out⟩
                · have hwr2 : IntKind.i64.wrap (at_ + m.rk) = at_ + m.rk := IntWalk.i64_in _ (by omega)
                  have D11 := D10.set [_, _, _, _] [] hp 1 (.int .i64 (at_ + m.rk))
                  have HD11 := Lib.hid D11
                  clear D10 D11
                  go_wp2_with fail
                  go_region
                  go_wp2_with fail
                  go_meet
                  exact ⟨at_ + m.rk, by omega, HD11.out.below (Below.refl _ _).drew⟩
              case rest =>
                obtain ⟨ta, hta, D11⟩ := hcut
                obtain ⟨w11, hwc⟩ : ∃ x, x = wc := ⟨_, rfl⟩
                subst hwc
                clear HD10 q0 q1
                obtain ⟨u0, u1, hgl⟩ := HX.out.rdW HS.out D11.chg
                obtain ⟨t0, t1, tf0, tf1, htl⟩ := boxN (D11.bx [_, _, _, _] []).1
                have hwr3 : IntKind.i64.wrap (m.wd - 1) = m.wd - 1 := IntWalk.i64_in _ (by omega)
                obtain ⟨tb, htb⟩ : ∃ x, x = max 0 (min ta (m.wd - 1)) := ⟨_, rfl⟩
                have htb0 : 0 ≤ tb ∧ tb < m.wd := by omega
                have HTB := Lib.hid htb
                have D12 := (D11.set [_, _, _, _] [] hp 1 (.int .i64 tb)).below (Below.refl _ _).drew
                have HD12 := Lib.hid (show Dst w p (K + 8) [bx_ w.heap.size #[.int .i64 0, .int .i64 0, .int .i64 0, .int .i64 0, .int .i64 0, .int .i64 0, .int .i64 0, .int .i64 0] 38, bx_ bn #[.int .i64 bed, .int .i64 at_] 36, bx_ bo #[.int .i64 1, .int .i64 dd, .int .i64 bed, .int .i64 at_, .int .i64 0, .int .i64 0, .int .i64 cI, .int .i64 0] 38, bx_ bc #[.bool cin, .int .i64 cat] 126, bx_ bt #[.int .i64 (3 - bed), .int .i64 tb] 36] _ from D12)
                clear D11 D12 htb
                have HMM := Lib.hid (fun W => l00Min_any ta (m.wd - 1) W)
                have HMX := Lib.hid (fun W => show Calls Tryz.prog 113 #[.int .i64 0, .int .i64 (min ta (m.wd - 1))] W fun e w' => e = .returned (.int .i64 tb) ∧ W = w' from by rw [HTB.out]; exact l00Max_any 0 (min ta (m.wd - 1)) W)
                have HK := Lib.hid (fun w' (hw : Below w11.heap.size w11 w') => show w'.cell? ⟨bt, 1, none⟩ = some (.int .i64 ta) ∧ w'.cell? ⟨g, 0, none⟩ = some (.int .i64 m.wd) ∧ Below w11.heap.size w11 w' from ⟨(hw.cell (by simp only; omega)).trans t1, (hw.cell (by simp only; omega)).trans u0, hw⟩)
                go_upto_region 13 with fail
                refine wp_region_z (fun w' => w'.cell? ⟨bt, 1, none⟩ = some (.int .i64 ta) ∧ w'.cell? ⟨g, 0, none⟩ = some (.int .i64 m.wd) ∧ Below w11.heap.size w11 w') 10 (by kernel_rfl) (HK.out _ (Below.refl _ _).drew) (fun hH0 => ?_)
                refine wpZ_take 0 12 (u := ?_) rfl (by kernel_rfl) (fun _ _ _ h => h) ⟨by rfl, ?_⟩ hH0 ?_
                rotate_left
                · intro w hSw; (try dsimp only at hSw); go_simp; (first | done | with_reducible rfl)
                try simp only [Act.put, sb1, sb2, sb3]
                refine wpZ_take 1 12 (u := ?_) rfl (by kernel_rfl) (fun _ _ _ h => h) ⟨by rfl, ?_⟩ hH0 ?_
                rotate_left
                · intro w hSw; (try dsimp only at hSw); go_simp; (first | done | with_reducible rfl)
                try simp only [Act.put, sb1, sb2, sb3]
                refine wpZ_take 2 12 (u := ?_) rfl (by kernel_rfl) (fun _ _ _ h => h) ⟨by rfl, ?_⟩ hH0 ?_
                rotate_left
                · intro w hSw; (try dsimp only at hSw); go_simp; (first | done | with_reducible rfl)
                try simp only [Act.put, sb1, sb2, sb3]
                refine wpZ_take 3 12 (u := ?_) rfl (by kernel_rfl) (fun _ _ _ h => h) ⟨by rfl, ?_⟩ hH0 ?_
                rotate_left
                · intro w hSw; (try dsimp only at hSw); go_simp; (first | done | with_reducible rfl)
                try simp only [Act.put, sb1, sb2, sb3]
                refine wpZ_take 4 12 (u := ?_) rfl (by kernel_rfl) (fun _ _ _ h => h) ⟨by rfl, ?_⟩ hH0 ?_
                rotate_left
                · intro w hSw; (try dsimp only at hSw); go_simp; (first | done | with_reducible rfl)
                try simp only [Act.put, sb1, sb2, sb3]
                refine wpZ_take 5 12 (u := ?_) rfl (by kernel_rfl) (fun _ _ _ h => h) ⟨by rfl, ?_⟩ hH0 ?_
                rotate_left
                · intro w hSw; (try dsimp only at hSw); go_simp; (first | done | with_reducible rfl)
                try simp only [Act.put, sb1, sb2, sb3]
                refine wpZ_take 6 12 (u := ?_) rfl (by kernel_rfl) (fun _ _ _ h => h) ⟨by rfl, ?_⟩ hH0 ?_
                rotate_left
                · intro w hSw; (try dsimp only at hSw); go_simp; (first | done | with_reducible rfl)
                try simp only [Act.put, sb1, sb2, sb3]
                refine wpZ_only 7 rfl (by kernel_rfl) (by rfl) (fun K hK => ?_)
                go_simp
                go_at_call 114
                refine (HMM.out _).mono ?_
                rintro e w' ⟨rfl, rfl⟩
                go_wp2_with fail
                refine hK.out _ _ ?_ (fun hH1 => ?_)
                · exact HK.out _ (by first | with_reducible assumption | with_reducible exact Below.refl _ _ | with_reducible exact below_drewN (Below.refl _ _) _ | with_reducible exact (Below.refl _ _).drew | go_grown)
                clear hK K hH0
                try simp only [Act.put, sb1, sb2, sb3]
                refine wpZ_only 8 rfl (by kernel_rfl) (by rfl) (fun K hK => ?_)
                go_simp
                go_at_call 113
                refine (HMX.out _).mono ?_
                rintro e w' ⟨rfl, rfl⟩
                go_wp2_with fail
                refine hK.out _ _ ?_ (fun hH2 => ?_)
                · exact HK.out _ (by first | with_reducible assumption | with_reducible exact Below.refl _ _ | with_reducible exact below_drewN (Below.refl _ _) _ | with_reducible exact (Below.refl _ _).drew | go_grown)
                clear hK K hH1
                try simp only [Act.put, sb1, sb2, sb3]
                refine wpZ_take 9 12 (u := ?_) rfl (by kernel_rfl) (fun _ _ _ h => h) ⟨by rfl, ?_⟩ hH2 ?_
                rotate_left
                · intro w hSw; (try dsimp only at hSw); go_simp; (first | done | with_reducible rfl)
                try simp only [Act.put, sb1, sb2, sb3]
                refine wpZ_last rfl (by kernel_rfl) (by kernel_rfl) (by rfl) (fun K hK => ?_)
                go_simp
                refine hK.out _ _ ?_
                clear hK K hH2
                go_upto_region 14 with fail
                generalize hW : World.drew _ = w12 at *
                have D12 : Dst w p (K + 8) [bx_ w.heap.size #[.int .i64 0, .int .i64 0, .int .i64 0, .int .i64 0, .int .i64 0, .int .i64 0, .int .i64 0, .int .i64 0] 38, bx_ bn #[.int .i64 bed, .int .i64 at_] 36, bx_ bo #[.int .i64 1, .int .i64 dd, .int .i64 bed, .int .i64 at_, .int .i64 0, .int .i64 0, .int .i64 cI, .int .i64 0] 38, bx_ bc #[.bool cin, .int .i64 cat] 126, bx_ bt #[.int .i64 (3 - bed), .int .i64 tb] 36] w12 := HD12.out
                clear hW HD12 HK HMM HMX HTB hwr3 t0 t1 tf0 tf1 htl u0 u1 hgl
                rcases (show k = 0 ∨ k = 1 ∨ k = 2 ∨ k = 3 ∨ k = 4 ∨ k = 5 ∨ k = 6 ∨ k = 7 ∨ k = 8 ∨ k = 9 ∨ k = 10 ∨ k = 11 by omega) with rfl | rfl | rfl | rfl | rfl | rfl | rfl | rfl | rfl | rfl | rfl | rfl
                · go_upto_region 33 with fail
                  obtain ⟨⟨o0, o1, o2, o3, o4, o5, o6, o7⟩, -, -⟩ := box8 (D12.bx [_, _] [_, _]).1
                  obtain ⟨⟨r0, r1, r2, r3, r4, r5, r6, r7⟩, tfz, -⟩ := box8 (D12.bx [] [_, _, _, _]).1
                  have rf0 := tfz 0
                  have rf1 := tfz 1
                  have rf2 := tfz 2
                  have rf3 := tfz 3
                  have rf4 := tfz 4
                  have rf5 := tfz 5
                  have rf6 := tfz 6
                  have rf7 := tfz 7
                  clear tfz
                  have D_ := D12.set8 [] [_, _, _, _] hp (.int .i64 (1)) (.int .i64 (dd)) (.int .i64 (bed)) (.int .i64 (at_)) (.int .i64 (0)) (.int .i64 (0)) (.int .i64 (cI)) (.int .i64 (0))
                  have HE_ := Lib.hid (box8 (D_.bx [] [_, _, _, _]).1).1
                  have HD_ := Lib.hid D_
                  clear D_ D12
                  iterate 10 go_step
                  refine wp_ret ?_
                  obtain ⟨e0, e1, e2, e3, e4, e5, e6, e7⟩ := HE_.out
                  refine bodyPost_ret (v := .agg #[.int .i64 1, .int .i64 dd, .int .i64 bed, .int .i64 at_, .int .i64 0, .int .i64 0, .int .i64 cI, .int .i64 0]) (by simp [results, Tryz.results80, go_sem, e0, e1, e2, e3, e4, e5, e6, e7]) rfl ?_
                  exact ⟨[1, dd, bed, at_, 0, 0, cI, 0], rfl, rfl, dOk_form (.inl rfl) hd hbed ha0 hat ⟨hwd0, hwd1⟩ hcI, HD_.out.src.mono (by omega), HD_.out.chg⟩
                · go_upto_region 33 with fail
                  obtain ⟨⟨o0, o1, o2, o3, o4, o5, o6, o7⟩, -, -⟩ := box8 (D12.bx [_, _] [_, _]).1
                  obtain ⟨⟨r0, r1, r2, r3, r4, r5, r6, r7⟩, tfz, -⟩ := box8 (D12.bx [] [_, _, _, _]).1
                  have rf0 := tfz 0
                  have rf1 := tfz 1
                  have rf2 := tfz 2
                  have rf3 := tfz 3
                  have rf4 := tfz 4
                  have rf5 := tfz 5
                  have rf6 := tfz 6
                  have rf7 := tfz 7
                  clear tfz
                  have D_ := D12.set8 [] [_, _, _, _] hp (.int .i64 (1)) (.int .i64 (dd)) (.int .i64 (bed)) (.int .i64 (at_)) (.int .i64 (0)) (.int .i64 (0)) (.int .i64 (cI)) (.int .i64 (0))
                  have HE_ := Lib.hid (box8 (D_.bx [] [_, _, _, _]).1).1
                  have HD_ := Lib.hid D_
                  clear D_ D12
                  iterate 10 go_step
                  refine wp_ret ?_
                  obtain ⟨e0, e1, e2, e3, e4, e5, e6, e7⟩ := HE_.out
                  refine bodyPost_ret (v := .agg #[.int .i64 1, .int .i64 dd, .int .i64 bed, .int .i64 at_, .int .i64 0, .int .i64 0, .int .i64 cI, .int .i64 0]) (by simp [results, Tryz.results80, go_sem, e0, e1, e2, e3, e4, e5, e6, e7]) rfl ?_
                  exact ⟨[1, dd, bed, at_, 0, 0, cI, 0], rfl, rfl, dOk_form (.inl rfl) hd hbed ha0 hat ⟨hwd0, hwd1⟩ hcI, HD_.out.src.mono (by omega), HD_.out.chg⟩
                · go_upto_region 33 with fail
                  obtain ⟨⟨o0, o1, o2, o3, o4, o5, o6, o7⟩, -, -⟩ := box8 (D12.bx [_, _] [_, _]).1
                  obtain ⟨⟨r0, r1, r2, r3, r4, r5, r6, r7⟩, tfz, -⟩ := box8 (D12.bx [] [_, _, _, _]).1
                  have rf0 := tfz 0
                  have rf1 := tfz 1
                  have rf2 := tfz 2
                  have rf3 := tfz 3
                  have rf4 := tfz 4
                  have rf5 := tfz 5
                  have rf6 := tfz 6
                  have rf7 := tfz 7
                  clear tfz
                  have D_ := D12.set8 [] [_, _, _, _] hp (.int .i64 (1)) (.int .i64 (dd)) (.int .i64 (bed)) (.int .i64 (at_)) (.int .i64 (0)) (.int .i64 (0)) (.int .i64 (cI)) (.int .i64 (0))
                  have HE_ := Lib.hid (box8 (D_.bx [] [_, _, _, _]).1).1
                  have HD_ := Lib.hid D_
                  clear D_ D12
                  iterate 10 go_step
                  refine wp_ret ?_
                  obtain ⟨e0, e1, e2, e3, e4, e5, e6, e7⟩ := HE_.out
                  refine bodyPost_ret (v := .agg #[.int .i64 1, .int .i64 dd, .int .i64 bed, .int .i64 at_, .int .i64 0, .int .i64 0, .int .i64 cI, .int .i64 0]) (by simp [results, Tryz.results80, go_sem, e0, e1, e2, e3, e4, e5, e6, e7]) rfl ?_
                  exact ⟨[1, dd, bed, at_, 0, 0, cI, 0], rfl, rfl, dOk_form (.inl rfl) hd hbed ha0 hat ⟨hwd0, hwd1⟩ hcI, HD_.out.src.mono (by omega), HD_.out.chg⟩
                · obtain ⟨⟨o0, o1, o2, o3, o4, o5, o6, o7⟩, tfz, -⟩ := box8 (D12.bx [_, _] [_, _]).1
                  have of0 := tfz 0
                  have of1 := tfz 1
                  have of2 := tfz 2
                  have of3 := tfz 3
                  have of4 := tfz 4
                  have of5 := tfz 5
                  have of6 := tfz 6
                  have of7 := tfz 7
                  clear tfz
                  have D20 := D12.set [_, _] [_, _] hp 0 (.int .i64 2)
                  have HD20 := Lib.hid D20
                  clear D12 D20
                  go_upto_region 33 with fail
                  generalize hW : World.setCell _ _ _ = w20 at *
                  have D20 : Dst w p (K + 8) [bx_ w.heap.size #[.int .i64 0, .int .i64 0, .int .i64 0, .int .i64 0, .int .i64 0, .int .i64 0, .int .i64 0, .int .i64 0] 38, bx_ bn #[.int .i64 bed, .int .i64 at_] 36, bx_ bo #[.int .i64 2, .int .i64 dd, .int .i64 bed, .int .i64 at_, .int .i64 0, .int .i64 0, .int .i64 cI, .int .i64 0] 38, bx_ bc #[.bool cin, .int .i64 cat] 126, bx_ bt #[.int .i64 (3 - bed), .int .i64 tb] 36] w20 := HD20.out
                  clear hW HD20
                  obtain ⟨⟨o0, o1, o2, o3, o4, o5, o6, o7⟩, -, -⟩ := box8 (D20.bx [_, _] [_, _]).1
                  obtain ⟨⟨r0, r1, r2, r3, r4, r5, r6, r7⟩, tfz, -⟩ := box8 (D20.bx [] [_, _, _, _]).1
                  have rf0 := tfz 0
                  have rf1 := tfz 1
                  have rf2 := tfz 2
                  have rf3 := tfz 3
                  have rf4 := tfz 4
                  have rf5 := tfz 5
                  have rf6 := tfz 6
                  have rf7 := tfz 7
                  clear tfz
                  have D_ := D20.set8 [] [_, _, _, _] hp (.int .i64 (2)) (.int .i64 (dd)) (.int .i64 (bed)) (.int .i64 (at_)) (.int .i64 (0)) (.int .i64 (0)) (.int .i64 (cI)) (.int .i64 (0))
                  have HE_ := Lib.hid (box8 (D_.bx [] [_, _, _, _]).1).1
                  have HD_ := Lib.hid D_
                  clear D_ D20
                  iterate 10 go_step
                  refine wp_ret ?_
                  obtain ⟨e0, e1, e2, e3, e4, e5, e6, e7⟩ := HE_.out
                  refine bodyPost_ret (v := .agg #[.int .i64 2, .int .i64 dd, .int .i64 bed, .int .i64 at_, .int .i64 0, .int .i64 0, .int .i64 cI, .int .i64 0]) (by simp [results, Tryz.results80, go_sem, e0, e1, e2, e3, e4, e5, e6, e7]) rfl ?_
                  exact ⟨[2, dd, bed, at_, 0, 0, cI, 0], rfl, rfl, dOk_form (.inr (.inl rfl)) hd hbed ha0 hat ⟨hwd0, hwd1⟩ hcI, HD_.out.src.mono (by omega), HD_.out.chg⟩
                · obtain ⟨⟨o0, o1, o2, o3, o4, o5, o6, o7⟩, tfz, -⟩ := box8 (D12.bx [_, _] [_, _]).1
                  have of0 := tfz 0
                  have of1 := tfz 1
                  have of2 := tfz 2
                  have of3 := tfz 3
                  have of4 := tfz 4
                  have of5 := tfz 5
                  have of6 := tfz 6
                  have of7 := tfz 7
                  clear tfz
                  have D20 := D12.set [_, _] [_, _] hp 0 (.int .i64 3)
                  have HD20 := Lib.hid D20
                  clear D12 D20
                  go_upto_region 33 with fail
                  generalize hW : World.setCell _ _ _ = w20 at *
                  have D20 : Dst w p (K + 8) [bx_ w.heap.size #[.int .i64 0, .int .i64 0, .int .i64 0, .int .i64 0, .int .i64 0, .int .i64 0, .int .i64 0, .int .i64 0] 38, bx_ bn #[.int .i64 bed, .int .i64 at_] 36, bx_ bo #[.int .i64 3, .int .i64 dd, .int .i64 bed, .int .i64 at_, .int .i64 0, .int .i64 0, .int .i64 cI, .int .i64 0] 38, bx_ bc #[.bool cin, .int .i64 cat] 126, bx_ bt #[.int .i64 (3 - bed), .int .i64 tb] 36] w20 := HD20.out
                  clear hW HD20
                  obtain ⟨⟨o0, o1, o2, o3, o4, o5, o6, o7⟩, -, -⟩ := box8 (D20.bx [_, _] [_, _]).1
                  obtain ⟨⟨r0, r1, r2, r3, r4, r5, r6, r7⟩, tfz, -⟩ := box8 (D20.bx [] [_, _, _, _]).1
                  have rf0 := tfz 0
                  have rf1 := tfz 1
                  have rf2 := tfz 2
                  have rf3 := tfz 3
                  have rf4 := tfz 4
                  have rf5 := tfz 5
                  have rf6 := tfz 6
                  have rf7 := tfz 7
                  clear tfz
                  have D_ := D20.set8 [] [_, _, _, _] hp (.int .i64 (3)) (.int .i64 (dd)) (.int .i64 (bed)) (.int .i64 (at_)) (.int .i64 (0)) (.int .i64 (0)) (.int .i64 (cI)) (.int .i64 (0))
                  have HE_ := Lib.hid (box8 (D_.bx [] [_, _, _, _]).1).1
                  have HD_ := Lib.hid D_
                  clear D_ D20
                  iterate 10 go_step
                  refine wp_ret ?_
                  obtain ⟨e0, e1, e2, e3, e4, e5, e6, e7⟩ := HE_.out
                  refine bodyPost_ret (v := .agg #[.int .i64 3, .int .i64 dd, .int .i64 bed, .int .i64 at_, .int .i64 0, .int .i64 0, .int .i64 cI, .int .i64 0]) (by simp [results, Tryz.results80, go_sem, e0, e1, e2, e3, e4, e5, e6, e7]) rfl ?_
                  exact ⟨[3, dd, bed, at_, 0, 0, cI, 0], rfl, rfl, dOk_form (.inr (.inr rfl)) hd hbed ha0 hat ⟨hwd0, hwd1⟩ hcI, HD_.out.src.mono (by omega), HD_.out.chg⟩
                · obtain ⟨⟨o0, o1, o2, o3, o4, o5, o6, o7⟩, tfz, -⟩ := box8 (D12.bx [_, _] [_, _]).1
                  have of0 := tfz 0
                  have of1 := tfz 1
                  have of2 := tfz 2
                  have of3 := tfz 3
                  have of4 := tfz 4
                  have of5 := tfz 5
                  have of6 := tfz 6
                  have of7 := tfz 7
                  clear tfz
                  obtain ⟨t0, t1, -, -, -⟩ := boxN (D12.bx [_, _, _, _] []).1
                  have D20a : Dst w p (K + 8) [bx_ w.heap.size #[.int .i64 0, .int .i64 0, .int .i64 0, .int .i64 0, .int .i64 0, .int .i64 0, .int .i64 0, .int .i64 0] 38, bx_ bn #[.int .i64 bed, .int .i64 at_] 36, bx_ bo #[.int .i64 5, .int .i64 dd, .int .i64 bed, .int .i64 at_, .int .i64 0, .int .i64 0, .int .i64 cI, .int .i64 0] 38, bx_ bc #[.bool cin, .int .i64 cat] 126, bx_ bt #[.int .i64 (3 - bed), .int .i64 tb] 36] _ := D12.set [_, _] [_, _] hp 0 (.int .i64 (5))
                  obtain ⟨t2, t3, -, -, -⟩ := boxN (D20a.bx [_, _, _, _] []).1
                  have D20b : Dst w p (K + 8) [bx_ w.heap.size #[.int .i64 0, .int .i64 0, .int .i64 0, .int .i64 0, .int .i64 0, .int .i64 0, .int .i64 0, .int .i64 0] 38, bx_ bn #[.int .i64 bed, .int .i64 at_] 36, bx_ bo #[.int .i64 5, .int .i64 dd, .int .i64 bed, .int .i64 at_, .int .i64 (3 - bed), .int .i64 0, .int .i64 cI, .int .i64 0] 38, bx_ bc #[.bool cin, .int .i64 cat] 126, bx_ bt #[.int .i64 (3 - bed), .int .i64 tb] 36] _ := D20a.set [_, _] [_, _] hp 4 (.int .i64 (3 - bed))
                  have D20 : Dst w p (K + 8) [bx_ w.heap.size #[.int .i64 0, .int .i64 0, .int .i64 0, .int .i64 0, .int .i64 0, .int .i64 0, .int .i64 0, .int .i64 0] 38, bx_ bn #[.int .i64 bed, .int .i64 at_] 36, bx_ bo #[.int .i64 5, .int .i64 dd, .int .i64 bed, .int .i64 at_, .int .i64 (3 - bed), .int .i64 tb, .int .i64 cI, .int .i64 0] 38, bx_ bc #[.bool cin, .int .i64 cat] 126, bx_ bt #[.int .i64 (3 - bed), .int .i64 tb] 36] _ := D20b.set [_, _] [_, _] hp 5 (.int .i64 (tb))
                  clear D20a D20b
                  have HD20 := Lib.hid D20
                  clear D12 D20
                  go_upto_region 33 with fail
                  clear t2 t3
                  generalize hW : World.setCell _ _ _ = w20 at *
                  have D20 : Dst w p (K + 8) [bx_ w.heap.size #[.int .i64 0, .int .i64 0, .int .i64 0, .int .i64 0, .int .i64 0, .int .i64 0, .int .i64 0, .int .i64 0] 38, bx_ bn #[.int .i64 bed, .int .i64 at_] 36, bx_ bo #[.int .i64 5, .int .i64 dd, .int .i64 bed, .int .i64 at_, .int .i64 (3 - bed), .int .i64 tb, .int .i64 cI, .int .i64 0] 38, bx_ bc #[.bool cin, .int .i64 cat] 126, bx_ bt #[.int .i64 (3 - bed), .int .i64 tb] 36] w20 := HD20.out
                  clear hW HD20
                  obtain ⟨⟨o0, o1, o2, o3, o4, o5, o6, o7⟩, -, -⟩ := box8 (D20.bx [_, _] [_, _]).1
                  obtain ⟨⟨r0, r1, r2, r3, r4, r5, r6, r7⟩, tfz, -⟩ := box8 (D20.bx [] [_, _, _, _]).1
                  have rf0 := tfz 0
                  have rf1 := tfz 1
                  have rf2 := tfz 2
                  have rf3 := tfz 3
                  have rf4 := tfz 4
                  have rf5 := tfz 5
                  have rf6 := tfz 6
                  have rf7 := tfz 7
                  clear tfz
                  have D_ := D20.set8 [] [_, _, _, _] hp (.int .i64 (5)) (.int .i64 (dd)) (.int .i64 (bed)) (.int .i64 (at_)) (.int .i64 (3 - bed)) (.int .i64 (tb)) (.int .i64 (cI)) (.int .i64 (0))
                  have HE_ := Lib.hid (box8 (D_.bx [] [_, _, _, _]).1).1
                  have HD_ := Lib.hid D_
                  clear D_ D20
                  iterate 10 go_step
                  refine wp_ret ?_
                  obtain ⟨e0, e1, e2, e3, e4, e5, e6, e7⟩ := HE_.out
                  refine bodyPost_ret (v := .agg #[.int .i64 5, .int .i64 dd, .int .i64 bed, .int .i64 at_, .int .i64 (3 - bed), .int .i64 tb, .int .i64 cI, .int .i64 0]) (by simp [results, Tryz.results80, go_sem, e0, e1, e2, e3, e4, e5, e6, e7]) rfl ?_
                  exact ⟨[5, dd, bed, at_, 3 - bed, tb, cI, 0], rfl, rfl, dOk_split hd hbed ha0 hat htb0.1 htb0.2 hwd1 hcI, HD_.out.src.mono (by omega), HD_.out.chg⟩
                · obtain ⟨⟨o0, o1, o2, o3, o4, o5, o6, o7⟩, tfz, -⟩ := box8 (D12.bx [_, _] [_, _]).1
                  have of0 := tfz 0
                  have of1 := tfz 1
                  have of2 := tfz 2
                  have of3 := tfz 3
                  have of4 := tfz 4
                  have of5 := tfz 5
                  have of6 := tfz 6
                  have of7 := tfz 7
                  clear tfz
                  obtain ⟨t0, t1, -, -, -⟩ := boxN (D12.bx [_, _, _, _] []).1
                  obtain ⟨q0, q1, -, -, -⟩ := boxN (D12.bx [_] [_, _, _]).1
                  have D20 := D12.set8 [_, _] [_, _] hp (.int .i64 (4)) (.int .i64 (0)) (.int .i64 (bed)) (.int .i64 (at_)) (.int .i64 (3 - bed)) (.int .i64 (tb)) (.int .i64 (0)) (.int .i64 (0))
                  have HD20 := Lib.hid D20
                  clear D12 D20
                  go_upto_region 33 with fail
                  generalize hW : World.setCell _ _ _ = w20 at *
                  have D20 : Dst w p (K + 8) [bx_ w.heap.size #[.int .i64 0, .int .i64 0, .int .i64 0, .int .i64 0, .int .i64 0, .int .i64 0, .int .i64 0, .int .i64 0] 38, bx_ bn #[.int .i64 bed, .int .i64 at_] 36, bx_ bo #[.int .i64 4, .int .i64 0, .int .i64 bed, .int .i64 at_, .int .i64 (3 - bed), .int .i64 tb, .int .i64 0, .int .i64 0] 38, bx_ bc #[.bool cin, .int .i64 cat] 126, bx_ bt #[.int .i64 (3 - bed), .int .i64 tb] 36] w20 := HD20.out
                  clear hW HD20
                  obtain ⟨⟨o0, o1, o2, o3, o4, o5, o6, o7⟩, -, -⟩ := box8 (D20.bx [_, _] [_, _]).1
                  obtain ⟨⟨r0, r1, r2, r3, r4, r5, r6, r7⟩, tfz, -⟩ := box8 (D20.bx [] [_, _, _, _]).1
                  have rf0 := tfz 0
                  have rf1 := tfz 1
                  have rf2 := tfz 2
                  have rf3 := tfz 3
                  have rf4 := tfz 4
                  have rf5 := tfz 5
                  have rf6 := tfz 6
                  have rf7 := tfz 7
                  clear tfz
                  have D_ := D20.set8 [] [_, _, _, _] hp (.int .i64 (4)) (.int .i64 (0)) (.int .i64 (bed)) (.int .i64 (at_)) (.int .i64 (3 - bed)) (.int .i64 (tb)) (.int .i64 (0)) (.int .i64 (0))
                  have HE_ := Lib.hid (box8 (D_.bx [] [_, _, _, _]).1).1
                  have HD_ := Lib.hid D_
                  clear D_ D20
                  iterate 10 go_step
                  refine wp_ret ?_
                  obtain ⟨e0, e1, e2, e3, e4, e5, e6, e7⟩ := HE_.out
                  refine bodyPost_ret (v := .agg #[.int .i64 4, .int .i64 0, .int .i64 bed, .int .i64 at_, .int .i64 (3 - bed), .int .i64 tb, .int .i64 0, .int .i64 0]) (by simp [results, Tryz.results80, go_sem, e0, e1, e2, e3, e4, e5, e6, e7]) rfl ?_
                  exact ⟨[4, 0, bed, at_, 3 - bed, tb, 0, 0], rfl, rfl, dOk_xfer hbed ha0 hat htb0.1 htb0.2 hwd1, HD_.out.src.mono (by omega), HD_.out.chg⟩
                · obtain ⟨⟨o0, o1, o2, o3, o4, o5, o6, o7⟩, tfz, -⟩ := box8 (D12.bx [_, _] [_, _]).1
                  have of0 := tfz 0
                  have of1 := tfz 1
                  have of2 := tfz 2
                  have of3 := tfz 3
                  have of4 := tfz 4
                  have of5 := tfz 5
                  have of6 := tfz 6
                  have of7 := tfz 7
                  clear tfz
                  obtain ⟨t0, t1, -, -, -⟩ := boxN (D12.bx [_, _, _, _] []).1
                  obtain ⟨q0, q1, -, -, -⟩ := boxN (D12.bx [_] [_, _, _]).1
                  have D20 := D12.set8 [_, _] [_, _] hp (.int .i64 (4)) (.int .i64 (0)) (.int .i64 (bed)) (.int .i64 (at_)) (.int .i64 (3 - bed)) (.int .i64 (tb)) (.int .i64 (0)) (.int .i64 (0))
                  have HD20 := Lib.hid D20
                  clear D12 D20
                  go_upto_region 33 with fail
                  generalize hW : World.setCell _ _ _ = w20 at *
                  have D20 : Dst w p (K + 8) [bx_ w.heap.size #[.int .i64 0, .int .i64 0, .int .i64 0, .int .i64 0, .int .i64 0, .int .i64 0, .int .i64 0, .int .i64 0] 38, bx_ bn #[.int .i64 bed, .int .i64 at_] 36, bx_ bo #[.int .i64 4, .int .i64 0, .int .i64 bed, .int .i64 at_, .int .i64 (3 - bed), .int .i64 tb, .int .i64 0, .int .i64 0] 38, bx_ bc #[.bool cin, .int .i64 cat] 126, bx_ bt #[.int .i64 (3 - bed), .int .i64 tb] 36] w20 := HD20.out
                  clear hW HD20
                  obtain ⟨⟨o0, o1, o2, o3, o4, o5, o6, o7⟩, -, -⟩ := box8 (D20.bx [_, _] [_, _]).1
                  obtain ⟨⟨r0, r1, r2, r3, r4, r5, r6, r7⟩, tfz, -⟩ := box8 (D20.bx [] [_, _, _, _]).1
                  have rf0 := tfz 0
                  have rf1 := tfz 1
                  have rf2 := tfz 2
                  have rf3 := tfz 3
                  have rf4 := tfz 4
                  have rf5 := tfz 5
                  have rf6 := tfz 6
                  have rf7 := tfz 7
                  clear tfz
                  have D_ := D20.set8 [] [_, _, _, _] hp (.int .i64 (4)) (.int .i64 (0)) (.int .i64 (bed)) (.int .i64 (at_)) (.int .i64 (3 - bed)) (.int .i64 (tb)) (.int .i64 (0)) (.int .i64 (0))
                  have HE_ := Lib.hid (box8 (D_.bx [] [_, _, _, _]).1).1
                  have HD_ := Lib.hid D_
                  clear D_ D20
                  iterate 10 go_step
                  refine wp_ret ?_
                  obtain ⟨e0, e1, e2, e3, e4, e5, e6, e7⟩ := HE_.out
                  refine bodyPost_ret (v := .agg #[.int .i64 4, .int .i64 0, .int .i64 bed, .int .i64 at_, .int .i64 (3 - bed), .int .i64 tb, .int .i64 0, .int .i64 0]) (by simp [results, Tryz.results80, go_sem, e0, e1, e2, e3, e4, e5, e6, e7]) rfl ?_
                  exact ⟨[4, 0, bed, at_, 3 - bed, tb, 0, 0], rfl, rfl, dOk_xfer hbed ha0 hat htb0.1 htb0.2 hwd1, HD_.out.src.mono (by omega), HD_.out.chg⟩
                · obtain ⟨⟨o0, o1, o2, o3, o4, o5, o6, o7⟩, tfz, -⟩ := box8 (D12.bx [_, _] [_, _]).1
                  have of0 := tfz 0
                  have of1 := tfz 1
                  have of2 := tfz 2
                  have of3 := tfz 3
                  have of4 := tfz 4
                  have of5 := tfz 5
                  have of6 := tfz 6
                  have of7 := tfz 7
                  clear tfz
                  obtain ⟨t0, t1, -, -, -⟩ := boxN (D12.bx [_, _, _, _] []).1
                  obtain ⟨q0, q1, -, -, -⟩ := boxN (D12.bx [_] [_, _, _]).1
                  have D20 := D12.set8 [_, _] [_, _] hp (.int .i64 (4)) (.int .i64 (0)) (.int .i64 (bed)) (.int .i64 (at_)) (.int .i64 (3 - bed)) (.int .i64 (tb)) (.int .i64 (0)) (.int .i64 (0))
                  have HD20 := Lib.hid D20
                  clear D12 D20
                  go_upto_region 33 with fail
                  generalize hW : World.setCell _ _ _ = w20 at *
                  have D20 : Dst w p (K + 8) [bx_ w.heap.size #[.int .i64 0, .int .i64 0, .int .i64 0, .int .i64 0, .int .i64 0, .int .i64 0, .int .i64 0, .int .i64 0] 38, bx_ bn #[.int .i64 bed, .int .i64 at_] 36, bx_ bo #[.int .i64 4, .int .i64 0, .int .i64 bed, .int .i64 at_, .int .i64 (3 - bed), .int .i64 tb, .int .i64 0, .int .i64 0] 38, bx_ bc #[.bool cin, .int .i64 cat] 126, bx_ bt #[.int .i64 (3 - bed), .int .i64 tb] 36] w20 := HD20.out
                  clear hW HD20
                  obtain ⟨⟨o0, o1, o2, o3, o4, o5, o6, o7⟩, -, -⟩ := box8 (D20.bx [_, _] [_, _]).1
                  obtain ⟨⟨r0, r1, r2, r3, r4, r5, r6, r7⟩, tfz, -⟩ := box8 (D20.bx [] [_, _, _, _]).1
                  have rf0 := tfz 0
                  have rf1 := tfz 1
                  have rf2 := tfz 2
                  have rf3 := tfz 3
                  have rf4 := tfz 4
                  have rf5 := tfz 5
                  have rf6 := tfz 6
                  have rf7 := tfz 7
                  clear tfz
                  have D_ := D20.set8 [] [_, _, _, _] hp (.int .i64 (4)) (.int .i64 (0)) (.int .i64 (bed)) (.int .i64 (at_)) (.int .i64 (3 - bed)) (.int .i64 (tb)) (.int .i64 (0)) (.int .i64 (0))
                  have HE_ := Lib.hid (box8 (D_.bx [] [_, _, _, _]).1).1
                  have HD_ := Lib.hid D_
                  clear D_ D20
                  iterate 10 go_step
                  refine wp_ret ?_
                  obtain ⟨e0, e1, e2, e3, e4, e5, e6, e7⟩ := HE_.out
                  refine bodyPost_ret (v := .agg #[.int .i64 4, .int .i64 0, .int .i64 bed, .int .i64 at_, .int .i64 (3 - bed), .int .i64 tb, .int .i64 0, .int .i64 0]) (by simp [results, Tryz.results80, go_sem, e0, e1, e2, e3, e4, e5, e6, e7]) rfl ?_
                  exact ⟨[4, 0, bed, at_, 3 - bed, tb, 0, 0], rfl, rfl, dOk_xfer hbed ha0 hat htb0.1 htb0.2 hwd1, HD_.out.src.mono (by omega), HD_.out.chg⟩
                · have hs12 := D12.src
                  have HD12 := Lib.hid D12
                  clear D12
                  go_wp2_with fail
                  refine (pick_any 5 p _ _ hs12 (by omega)).mono ?_
                  rintro e w13 ⟨x, rfl, x0, x1, hs13, hc13⟩
                  have D12 := HD12.out.call hp hs13 hc13
                  clear HD12 hs12 hs13 hc13
                  have hwr4 : IntKind.i64.wrap (x - 2) = x - 2 := IntWalk.i64_in _ (by omega)
                  obtain ⟨⟨o0, o1, o2, o3, o4, o5, o6, o7⟩, tfz, -⟩ := box8 (D12.bx [_, _] [_, _]).1
                  have of0 := tfz 0
                  have of1 := tfz 1
                  have of2 := tfz 2
                  have of3 := tfz 3
                  have of4 := tfz 4
                  have of5 := tfz 5
                  have of6 := tfz 6
                  have of7 := tfz 7
                  clear tfz
                  have D20 := D12.set8 [_, _] [_, _] hp (.int .i64 (7)) (.int .i64 (0)) (.int .i64 (0)) (.int .i64 (0)) (.int .i64 (0)) (.int .i64 (0)) (.int .i64 (0)) (.int .i64 (x - 2))
                  have HD20 := Lib.hid D20
                  clear D12 D20
                  go_upto_region 33 with fail
                  generalize hW : World.setCell _ _ _ = w20 at *
                  have D20 : Dst w p (K + 10) [bx_ w.heap.size #[.int .i64 0, .int .i64 0, .int .i64 0, .int .i64 0, .int .i64 0, .int .i64 0, .int .i64 0, .int .i64 0] 38, bx_ bn #[.int .i64 bed, .int .i64 at_] 36, bx_ bo #[.int .i64 7, .int .i64 0, .int .i64 0, .int .i64 0, .int .i64 0, .int .i64 0, .int .i64 0, .int .i64 (x - 2)] 38, bx_ bc #[.bool cin, .int .i64 cat] 126, bx_ bt #[.int .i64 (3 - bed), .int .i64 tb] 36] w20 := HD20.out
                  clear hW HD20
                  obtain ⟨⟨o0, o1, o2, o3, o4, o5, o6, o7⟩, -, -⟩ := box8 (D20.bx [_, _] [_, _]).1
                  obtain ⟨⟨r0, r1, r2, r3, r4, r5, r6, r7⟩, tfz, -⟩ := box8 (D20.bx [] [_, _, _, _]).1
                  have rf0 := tfz 0
                  have rf1 := tfz 1
                  have rf2 := tfz 2
                  have rf3 := tfz 3
                  have rf4 := tfz 4
                  have rf5 := tfz 5
                  have rf6 := tfz 6
                  have rf7 := tfz 7
                  clear tfz
                  have D_ := D20.set8 [] [_, _, _, _] hp (.int .i64 (7)) (.int .i64 (0)) (.int .i64 (0)) (.int .i64 (0)) (.int .i64 (0)) (.int .i64 (0)) (.int .i64 (0)) (.int .i64 (x - 2))
                  have HE_ := Lib.hid (box8 (D_.bx [] [_, _, _, _]).1).1
                  have HD_ := Lib.hid D_
                  clear D_ D20
                  iterate 10 go_step
                  refine wp_ret ?_
                  obtain ⟨e0, e1, e2, e3, e4, e5, e6, e7⟩ := HE_.out
                  refine bodyPost_ret (v := .agg #[.int .i64 7, .int .i64 0, .int .i64 0, .int .i64 0, .int .i64 0, .int .i64 0, .int .i64 0, .int .i64 (x - 2)]) (by simp [results, Tryz.results80, go_sem, e0, e1, e2, e3, e4, e5, e6, e7]) rfl ?_
                  exact ⟨[7, 0, 0, 0, 0, 0, 0, x - 2], rfl, rfl, dOk_rack (by omega) (by omega) hwd0, HD_.out.src.mono (by omega), HD_.out.chg⟩
                · have hs12 := D12.src
                  have HD12 := Lib.hid D12
                  clear D12
                  go_wp2_with fail
                  refine (pick_any 5 p _ _ hs12 (by omega)).mono ?_
                  rintro e w13 ⟨x, rfl, x0, x1, hs13, hc13⟩
                  have D12 := HD12.out.call hp hs13 hc13
                  clear HD12 hs12 hs13 hc13
                  have hwr4 : IntKind.i64.wrap (x - 2) = x - 2 := IntWalk.i64_in _ (by omega)
                  obtain ⟨⟨o0, o1, o2, o3, o4, o5, o6, o7⟩, tfz, -⟩ := box8 (D12.bx [_, _] [_, _]).1
                  have of0 := tfz 0
                  have of1 := tfz 1
                  have of2 := tfz 2
                  have of3 := tfz 3
                  have of4 := tfz 4
                  have of5 := tfz 5
                  have of6 := tfz 6
                  have of7 := tfz 7
                  clear tfz
                  have D20 := D12.set8 [_, _] [_, _] hp (.int .i64 (7)) (.int .i64 (0)) (.int .i64 (0)) (.int .i64 (0)) (.int .i64 (0)) (.int .i64 (0)) (.int .i64 (0)) (.int .i64 (x - 2))
                  have HD20 := Lib.hid D20
                  clear D12 D20
                  go_upto_region 33 with fail
                  generalize hW : World.setCell _ _ _ = w20 at *
                  have D20 : Dst w p (K + 10) [bx_ w.heap.size #[.int .i64 0, .int .i64 0, .int .i64 0, .int .i64 0, .int .i64 0, .int .i64 0, .int .i64 0, .int .i64 0] 38, bx_ bn #[.int .i64 bed, .int .i64 at_] 36, bx_ bo #[.int .i64 7, .int .i64 0, .int .i64 0, .int .i64 0, .int .i64 0, .int .i64 0, .int .i64 0, .int .i64 (x - 2)] 38, bx_ bc #[.bool cin, .int .i64 cat] 126, bx_ bt #[.int .i64 (3 - bed), .int .i64 tb] 36] w20 := HD20.out
                  clear hW HD20
                  obtain ⟨⟨o0, o1, o2, o3, o4, o5, o6, o7⟩, -, -⟩ := box8 (D20.bx [_, _] [_, _]).1
                  obtain ⟨⟨r0, r1, r2, r3, r4, r5, r6, r7⟩, tfz, -⟩ := box8 (D20.bx [] [_, _, _, _]).1
                  have rf0 := tfz 0
                  have rf1 := tfz 1
                  have rf2 := tfz 2
                  have rf3 := tfz 3
                  have rf4 := tfz 4
                  have rf5 := tfz 5
                  have rf6 := tfz 6
                  have rf7 := tfz 7
                  clear tfz
                  have D_ := D20.set8 [] [_, _, _, _] hp (.int .i64 (7)) (.int .i64 (0)) (.int .i64 (0)) (.int .i64 (0)) (.int .i64 (0)) (.int .i64 (0)) (.int .i64 (0)) (.int .i64 (x - 2))
                  have HE_ := Lib.hid (box8 (D_.bx [] [_, _, _, _]).1).1
                  have HD_ := Lib.hid D_
                  clear D_ D20
                  iterate 10 go_step
                  refine wp_ret ?_
                  obtain ⟨e0, e1, e2, e3, e4, e5, e6, e7⟩ := HE_.out
                  refine bodyPost_ret (v := .agg #[.int .i64 7, .int .i64 0, .int .i64 0, .int .i64 0, .int .i64 0, .int .i64 0, .int .i64 0, .int .i64 (x - 2)]) (by simp [results, Tryz.results80, go_sem, e0, e1, e2, e3, e4, e5, e6, e7]) rfl ?_
                  exact ⟨[7, 0, 0, 0, 0, 0, 0, x - 2], rfl, rfl, dOk_rack (by omega) (by omega) hwd0, HD_.out.src.mono (by omega), HD_.out.chg⟩
                · obtain ⟨⟨o0, o1, o2, o3, o4, o5, o6, o7⟩, tfz, -⟩ := box8 (D12.bx [_, _] [_, _]).1
                  have of0 := tfz 0
                  have of1 := tfz 1
                  have of2 := tfz 2
                  have of3 := tfz 3
                  have of4 := tfz 4
                  have of5 := tfz 5
                  have of6 := tfz 6
                  have of7 := tfz 7
                  clear tfz
                  obtain ⟨q0, q1, -, -, -⟩ := boxN (D12.bx [_] [_, _, _]).1
                  have D20 := D12.set8 [_, _] [_, _] hp (.int .i64 (6)) (.int .i64 (0)) (.int .i64 (bed)) (.int .i64 (at_)) (.int .i64 (0)) (.int .i64 (0)) (.int .i64 (0)) (.int .i64 (0))
                  have hs12 := D20.src
                  have HD20 := Lib.hid D20
                  clear D12 D20
                  go_wp2_with fail
                  generalize hW : World.setCell _ _ _ = w13 at *
                  have D12 : Dst w p (K + 8) [bx_ w.heap.size #[.int .i64 0, .int .i64 0, .int .i64 0, .int .i64 0, .int .i64 0, .int .i64 0, .int .i64 0, .int .i64 0] 38, bx_ bn #[.int .i64 bed, .int .i64 at_] 36, bx_ bo #[.int .i64 6, .int .i64 0, .int .i64 bed, .int .i64 at_, .int .i64 0, .int .i64 0, .int .i64 0, .int .i64 0] 38, bx_ bc #[.bool cin, .int .i64 cat] 126, bx_ bt #[.int .i64 (3 - bed), .int .i64 tb] 36] w13 := HD20.out
                  clear hW HD20 o0 of0 o1 of1 o2 of2 o3 of3 o4 of4 o5 of5 o6 of6 o7 of7 q0 q1
                  refine (one_any 4 p _ _ hs12 (by omega)).mono ?_
                  rintro e w14 ⟨x, rfl, hs14, hc14⟩
                  have D14 := D12.call hp hs14 hc14
                  clear D12 hs12 hs14 hc14
                  cases x
                  · go_upto_region 33 with fail
                    obtain ⟨⟨o0, o1, o2, o3, o4, o5, o6, o7⟩, -, -⟩ := box8 (D14.bx [_, _] [_, _]).1
                    obtain ⟨⟨r0, r1, r2, r3, r4, r5, r6, r7⟩, tfz, -⟩ := box8 (D14.bx [] [_, _, _, _]).1
                    have rf0 := tfz 0
                    have rf1 := tfz 1
                    have rf2 := tfz 2
                    have rf3 := tfz 3
                    have rf4 := tfz 4
                    have rf5 := tfz 5
                    have rf6 := tfz 6
                    have rf7 := tfz 7
                    clear tfz
                    have D_ := D14.set8 [] [_, _, _, _] hp (.int .i64 (6)) (.int .i64 (0)) (.int .i64 (bed)) (.int .i64 (at_)) (.int .i64 (0)) (.int .i64 (0)) (.int .i64 (0)) (.int .i64 (0))
                    have HE_ := Lib.hid (box8 (D_.bx [] [_, _, _, _]).1).1
                    have HD_ := Lib.hid D_
                    clear D_ D14
                    iterate 10 go_step
                    refine wp_ret ?_
                    obtain ⟨e0, e1, e2, e3, e4, e5, e6, e7⟩ := HE_.out
                    refine bodyPost_ret (v := .agg #[.int .i64 6, .int .i64 0, .int .i64 bed, .int .i64 at_, .int .i64 0, .int .i64 0, .int .i64 0, .int .i64 0]) (by simp [results, Tryz.results80, go_sem, e0, e1, e2, e3, e4, e5, e6, e7]) rfl ?_
                    exact ⟨[6, 0, bed, at_, 0, 0, 0, 0], rfl, rfl, dOk_drop hbed ha0 hat hwd1, HD_.out.src.mono (by omega), HD_.out.chg⟩
                  · have hs14 := D14.src
                    have HD14 := Lib.hid D14
                    clear D14
                    go_wp2_with fail
                    refine (pick_any 2 p _ _ hs14 (by omega)).mono ?_
                    rintro e w15 ⟨y, rfl, y0, y1, hs15, hc15⟩
                    have D12 := HD14.out.call hp hs15 hc15
                    clear HD14 hs14 hs15 hc15
                    have hwr4 : IntKind.i64.wrap (1 + y) = 1 + y := IntWalk.i64_in _ (by omega)
                    obtain ⟨⟨o0, o1, o2, o3, o4, o5, o6, o7⟩, tfz, -⟩ := box8 (D12.bx [_, _] [_, _]).1
                    have of0 := tfz 0
                    have of1 := tfz 1
                    have of2 := tfz 2
                    have of3 := tfz 3
                    have of4 := tfz 4
                    have of5 := tfz 5
                    have of6 := tfz 6
                    have of7 := tfz 7
                    clear tfz
                    have D20 := D12.set8 [_, _] [_, _] hp (.int .i64 (9)) (.int .i64 (0)) (.int .i64 (0)) (.int .i64 (0)) (.int .i64 (0)) (.int .i64 (0)) (.int .i64 (1 + y)) (.int .i64 (0))
                    have HD20 := Lib.hid D20
                    clear D12 D20
                    go_upto_region 33 with fail
                    generalize hW : World.setCell _ _ _ = w20 at *
                    have D20 : Dst w p (K + 12) [bx_ w.heap.size #[.int .i64 0, .int .i64 0, .int .i64 0, .int .i64 0, .int .i64 0, .int .i64 0, .int .i64 0, .int .i64 0] 38, bx_ bn #[.int .i64 bed, .int .i64 at_] 36, bx_ bo #[.int .i64 9, .int .i64 0, .int .i64 0, .int .i64 0, .int .i64 0, .int .i64 0, .int .i64 (1 + y), .int .i64 0] 38, bx_ bc #[.bool cin, .int .i64 cat] 126, bx_ bt #[.int .i64 (3 - bed), .int .i64 tb] 36] w20 := HD20.out
                    clear hW HD20
                    obtain ⟨⟨o0, o1, o2, o3, o4, o5, o6, o7⟩, -, -⟩ := box8 (D20.bx [_, _] [_, _]).1
                    obtain ⟨⟨r0, r1, r2, r3, r4, r5, r6, r7⟩, tfz, -⟩ := box8 (D20.bx [] [_, _, _, _]).1
                    have rf0 := tfz 0
                    have rf1 := tfz 1
                    have rf2 := tfz 2
                    have rf3 := tfz 3
                    have rf4 := tfz 4
                    have rf5 := tfz 5
                    have rf6 := tfz 6
                    have rf7 := tfz 7
                    clear tfz
                    have D_ := D20.set8 [] [_, _, _, _] hp (.int .i64 (9)) (.int .i64 (0)) (.int .i64 (0)) (.int .i64 (0)) (.int .i64 (0)) (.int .i64 (0)) (.int .i64 (1 + y)) (.int .i64 (0))
                    have HE_ := Lib.hid (box8 (D_.bx [] [_, _, _, _]).1).1
                    have HD_ := Lib.hid D_
                    clear D_ D20
                    iterate 10 go_step
                    refine wp_ret ?_
                    obtain ⟨e0, e1, e2, e3, e4, e5, e6, e7⟩ := HE_.out
                    refine bodyPost_ret (v := .agg #[.int .i64 9, .int .i64 0, .int .i64 0, .int .i64 0, .int .i64 0, .int .i64 0, .int .i64 (1 + y), .int .i64 0]) (by simp [results, Tryz.results80, go_sem, e0, e1, e2, e3, e4, e5, e6, e7]) rfl ?_
                    exact ⟨[9, 0, 0, 0, 0, 0, 1 + y, 0], rfl, rfl, dOk_out (by omega) hwd0, HD_.out.src.mono (by omega), HD_.out.chg⟩
          · obtain ⟨⟨o0, o1, o2, o3, o4, o5, o6, o7⟩, -, -⟩ := box8 (D9.bx [_, _] [_]).1
            clear o0 o1 o2 o3 o4 o5 o7
            obtain ⟨⟨r0, r1, r2, r3, r4, r5, r6, r7⟩, tfz, -⟩ := box8 (D9.bx [] [_, _, _]).1
            have rf0 := tfz 0
            have rf1 := tfz 1
            have rf2 := tfz 2
            have rf3 := tfz 3
            have rf4 := tfz 4
            have rf5 := tfz 5
            have rf6 := tfz 6
            have rf7 := tfz 7
            clear tfz
            have D_ := D9.set8 [] [_, _, _] hp (.int .i64 (8)) (.int .i64 (1)) (.int .i64 (0)) (.int .i64 (0)) (.int .i64 (0)) (.int .i64 (0)) (.int .i64 (cI)) (.int .i64 (0))
            have HE_ := Lib.hid (box8 (D_.bx [] [_, _, _]).1).1
            have HD_ := Lib.hid D_
            clear D_ D9
            iterate 19 go_step
            refine wp_ret ?_
            simp only [Exit.then]
            obtain ⟨e0, e1, e2, e3, e4, e5, e6, e7⟩ := HE_.out
            refine bodyPost_ret (v := .agg #[.int .i64 8, .int .i64 1, .int .i64 0, .int .i64 0, .int .i64 0, .int .i64 0, .int .i64 cI, .int .i64 0]) (by simp [results, Tryz.results80, go_sem, e0, e1, e2, e3, e4, e5, e6, e7]) rfl ?_
            exact ⟨[8, 1, 0, 0, 0, 0, cI, 0], rfl, rfl, dOk_in hcI hwd0, HD_.out.src.mono (by omega), HD_.out.chg⟩
end Go.Proofs.YtgmppfhokfifgaaGreatDoor
