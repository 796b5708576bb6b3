/-
  A machine as an argument of a law: what the claim's frame hands over reads as a machine.
-/
import Derived.Test.YtbefioljddhhpaaGreatOpen
import Derived.Test.YtbefioljddhhpaaGreatSs3
import Derived.Test.YtbefioljddhhpaaGreatGmm
import Derived.Deep.Slices
namespace Go.Proofs.YtbefioljddhhpaaGreat
set_option maxRecDepth 10000
open Go.RowKit Go.ChangeShapes Go.WideShapes Go.ChangeAt Go.Deep
/-- All numbers are 64 bits wide, and every description has its five numbers. -/
structure MacR (m : Mac) : Prop where
  wd : R64 m.wd
  rk : R64 m.rk
  fr : ∀ xs ∈ m.fr, ∀ n ∈ xs, R64 n
  bk : ∀ xs ∈ m.bk, ∀ n ∈ xs, R64 n
  cr : ∀ c ∈ m.cr, R64 c.2
  lp : ∀ xs ∈ m.lp, ∀ n ∈ xs, R64 n
  dr : ∀ n ∈ m.dr, R64 n
  five : Five m.lp
section
variable {H : Type} {enc : TypeId × Value → H} {w : World} {spare : Nat → Bool} {held : Bool}
theorem car_trod {fuel : Nat} {cs : List Value} {x : DataW H × List MemPlace} (h : DataW.trod enc Tryz.prog w 0 spare held fuel 93 cs = some x) : ∃ (a : Bool) (b : Int), cs = [.bool a, .int .i64 b] ∧ R64 b := by
  obtain ⟨xs, n, _, _, hl, hlen, hf⟩ := DataW.trod_struct Tryz.underlying93 h
  have hl' : cs.length = 2 := hl.trans (by kernel_rfl)
  match cs, hl', xs, hlen with
  | [c0, c1], _, [y0, y1], _ =>
    obtain ⟨a, e0, -⟩ := DataW.trod_bool Tryz.underlying4 (x := y0) (hf 0 _ rfl)
    obtain ⟨b, e1, r1⟩ := int_trod (x := y1) (hf 1 _ rfl)
    have e0' : [c0] = [Value.bool a] := e0
    have e1' : [c1] = [Value.int .i64 b] := e1
    injection e0' with e0'
    injection e1' with e1'
    exact ⟨a, b, by rw [e0', e1'], r1⟩
theorem inf_trod {fuel : Nat} {cs : List Value} {x : DataW H × List MemPlace} (h : DataW.trod enc Tryz.prog w 0 spare held fuel 75 cs = some x) :
    ∃ a0 a1 a2 a3 a4 v ps, cs = [.int .i64 a0, .int .i64 a1, .int .i64 a2, .int .i64 a3, .int .i64 a4, v] ∧ Sl w w.heap.size v ps ∧ ∀ n ∈ a0 :: a1 :: a2 :: a3 :: a4 :: ps, R64 n := by
  obtain ⟨xs, n, _, _, hl, hlen, hf⟩ := DataW.trod_struct Tryz.underlying75 h
  have hl' : cs.length = 6 := hl.trans (by kernel_rfl)
  match cs, hl', xs, hlen with
  | [c0, c1, c2, c3, c4, c5], _, [y0, y1, y2, y3, y4, y5], _ =>
    obtain ⟨a0, e0, r0⟩ := int_trod (x := y0) (hf 0 _ rfl)
    obtain ⟨a1, e1, r1⟩ := int_trod (x := y1) (hf 1 _ rfl)
    obtain ⟨a2, e2, r2⟩ := int_trod (x := y2) (hf 2 _ rfl)
    obtain ⟨a3, e3, r3⟩ := int_trod (x := y3) (hf 3 _ rfl)
    obtain ⟨a4, e4, r4⟩ := int_trod (x := y4) (hf 4 _ rfl)
    obtain ⟨v, ps, e5, hs, r5⟩ := sl_trod (x := y5) (hf 5 _ rfl)
    have e0' : [c0] = [Value.int .i64 a0] := e0
    have e1' : [c1] = [Value.int .i64 a1] := e1
    have e2' : [c2] = [Value.int .i64 a2] := e2
    have e3' : [c3] = [Value.int .i64 a3] := e3
    have e4' : [c4] = [Value.int .i64 a4] := e4
    have e5' : [c5] = [v] := e5
    simp only [List.cons.injEq, and_true] at e0' e1' e2' e3' e4' e5'
    refine ⟨a0, a1, a2, a3, a4, v, ps, by rw [e0', e1', e2', e3', e4', e5'], hs, fun n hn => ?_⟩
    simp only [List.mem_cons] at hn
    rcases hn with rfl | rfl | rfl | rfl | rfl | hn
    · exact r0
    · exact r1
    · exact r2
    · exact r3
    · exact r4
    · exact r5 n hn
theorem slk_trod {fuel : Nat} {cs : List Value} {x : DataW H × List MemPlace} (h : DataW.trod enc Tryz.prog w 0 spare held fuel 23 cs = some x) :
    ∃ v D, cs = [v] ∧ SlK w w.heap.size v D ∧ ∀ c ∈ D, R64 c.2 := by
  rcases open_slice Tryz.underlying23 h with ⟨hcs, _⟩ | ⟨a, len, cap, m, n, D, Pl, hcs, _, hl, hm, hmm, _, hx⟩
  · exact ⟨_, [], hcs, SlC.nil _ _ _, by simp⟩
  · have hlm : len ≤ m := by rw [hmm]; split <;> omega
    obtain ⟨X, hX⟩ := choose_lt (α := Bool × Int) (n := len) (p := fun i c => w.cell? (a.add (i * 2)) = some (.bool c.1) ∧ w.cell? (a.add (i * 2 + 1)) = some (.int .i64 c.2) ∧ R64 c.2) (fun i hi => by
      obtain ⟨cs', h1, h2⟩ := hx i (by omega)
      obtain ⟨x, y, e, hr⟩ := car_trod h2
      have hc2 : Tryz.prog.cellsOf 93 = 2 := by kernel_rfl
      rw [hc2] at h1
      obtain ⟨-, hl2, hcc⟩ := World.cells?_some h1
      have h3 := hcc 0 (by omega)
      have h4 := hcc 1 (by omega)
      rw [Addr.add_add, e] at h3 h4
      exact ⟨(x, y), h3, h4, hr⟩)
    have hgl : ∀ k, k < len → gc ((List.range len).map X) k = X k := fun k hk => by rw [gc_eq (by simpa using hk)]; simp
    have hlen : ((List.range len).map X).length = len := by simp
    refine ⟨_, (List.range len).map X, hcs, ⟨some a, cap, by rw [hlen], by simpa using hl, hm, ⟨carC_len _, fun h => by cases h⟩, fun hp => ?_⟩, fun c hc => ?_⟩
    · have hp' : 0 < len := by simpa using hp
      have h0 := (hX 0 hp').1
      rw [show a.add (0 * 2) = a from rfl] at h0
      obtain ⟨ha, hlt⟩ := addr_of_cell h0
      refine ⟨a.block, a.off, by rw [← ha], hlt, fun k c hk => ?_⟩
      have hkl : k < len * 2 := by have := (List.getElem?_eq_some_iff.1 hk).1; rw [carC_len, hlen] at this; exact this
      obtain ⟨q, j, hq, hj, rfl⟩ : ∃ q j, q < len ∧ j < 2 ∧ k = q * 2 + j := ⟨k / 2, k % 2, by omega, by omega, by omega⟩
      rw [carC_get (by rw [hlen]; exact hq) hj, hgl q hq] at hk
      obtain ⟨h1, h2, -⟩ := hX q hq
      rw [ha, Addr.add_lit] at h1 h2
      match j, hj with
      | 0, _ =>
        simp [carC1] at hk
        subst hk
        exact ⟨_, h1, rfl⟩
      | 1, _ =>
        simp [carC1] at hk
        subst hk
        exact ⟨_, h2, rfl⟩
    · obtain ⟨i, hi, rfl⟩ := List.mem_map.1 hc
      exact (hX i (by simpa using hi)).2.2
theorem slf_trod {fuel : Nat} {cs : List Value} {x : DataW H × List MemPlace} (h : DataW.trod enc Tryz.prog w 0 spare held fuel 24 cs = some x) :
    ∃ v L, cs = [v] ∧ SlF w w.heap.size v L ∧ (∀ o ∈ L, ∀ n ∈ o, R64 n) ∧ Five L := by
  rcases open_slice Tryz.underlying24 h with ⟨hcs, _⟩ | ⟨a, len, cap, m, n, D, Pl, hcs, _, hl, hm, hmm, _, hx⟩
  · exact ⟨_, [], hcs, SlC.nil _ _ _, by simp, by simp [Five]⟩
  · have hlm : len ≤ m := by rw [hmm]; split <;> omega
    obtain ⟨X, hX⟩ := choose_lt (α := List Int) (n := len) (p := fun i o => (∀ j, j < 5 → w.cell? (a.add (i * 6 + j)) = some (.int .i64 (gi o j))) ∧ (∃ u, w.cell? (a.add (i * 6 + 5)) = some u ∧ Sl w w.heap.size u (o.drop 5)) ∧ 5 ≤ o.length ∧ ∀ n ∈ o, R64 n) (fun i hi => by
      obtain ⟨cs', h1, h2⟩ := hx i (by omega)
      obtain ⟨a0, a1, a2, a3, a4, v, ps, e, hs, hr⟩ := inf_trod h2
      have hc6 : Tryz.prog.cellsOf 75 = 6 := by kernel_rfl
      rw [hc6] at h1
      obtain ⟨-, hl6, hcc⟩ := World.cells?_some h1
      refine ⟨a0 :: a1 :: a2 :: a3 :: a4 :: ps, fun j hj => ?_, ⟨v, ?_, hs⟩, by simp, hr⟩
      · have h3 := hcc j (by omega)
        rw [Addr.add_add, e] at h3
        match j, hj with
        | 0, _ => exact h3
        | 1, _ => exact h3
        | 2, _ => exact h3
        | 3, _ => exact h3
        | 4, _ => exact h3
      · have h3 := hcc 5 (by omega)
        rw [Addr.add_add, e] at h3
        exact h3)
    have hgl : ∀ k, k < len → gl ((List.range len).map X) k = X k := fun k hk => by rw [gl_eq (by simpa using hk)]; simp
    have hlen : ((List.range len).map X).length = len := by simp
    refine ⟨_, (List.range len).map X, hcs, ⟨some a, cap, by rw [hlen], by simpa using hl, hm, ⟨infC_len _, fun h => by cases h⟩, fun hp => ?_⟩, fun o ho => ?_, fun o ho => ?_⟩
    · have hp' : 0 < len := by simpa using hp
      have h0 := (hX 0 hp').1 0 (by omega)
      rw [show a.add (0 * 6 + 0) = a from rfl] at h0
      obtain ⟨ha, hlt⟩ := addr_of_cell h0
      refine ⟨a.block, a.off, by rw [← ha], hlt, fun k c hk => ?_⟩
      have hkl : k < len * 6 := by have := (List.getElem?_eq_some_iff.1 hk).1; rw [infC_len, hlen] at this; exact this
      obtain ⟨q, j, hq, hj, rfl⟩ : ∃ q j, q < len ∧ j < 6 ∧ k = q * 6 + j := ⟨k / 6, k % 6, by omega, by omega, by omega⟩
      rw [infC_get (by rw [hlen]; exact hq) hj, hgl q hq] at hk
      obtain ⟨h1, ⟨u, h2, h3⟩, -, -⟩ := hX q hq
      by_cases hj5 : j < 5
      · have h4 := h1 j hj5
        rw [ha, Addr.add_lit] at h4
        have hc : c = .p (.int .i64 (gi (X q) j)) := by
          match j, hj5 with
          | 0, _ => simpa [infC1] using hk.symm
          | 1, _ => simpa [infC1] using hk.symm
          | 2, _ => simpa [infC1] using hk.symm
          | 3, _ => simpa [infC1] using hk.symm
          | 4, _ => simpa [infC1] using hk.symm
        subst hc
        exact ⟨_, h4, rfl⟩
      · obtain rfl : j = 5 := by omega
        rw [ha, Addr.add_lit] at h2
        simp [infC1] at hk
        subst hk
        exact ⟨u, h2, h3⟩
    · obtain ⟨i, hi, rfl⟩ := List.mem_map.1 ho
      exact (hX i (by simpa using hi)).2.2.2
    · obtain ⟨i, hi, rfl⟩ := List.mem_map.1 ho
      exact (hX i (by simpa using hi)).2.2.1
theorem mac_trod {fuel : Nat} {cs : List Value} {x : DataW H × List MemPlace} (h : DataW.trod enc Tryz.prog w 0 spare held fuel 27 cs = some x) :
    ∃ f b c l d m, cs = [.int .i64 m.wd, .int .i64 m.rk, f, b, c, l, d] ∧ SlM w w.heap.size f b c l d m ∧ MacR m := by
  obtain ⟨xs, n, _, _, hl, hlen, hf⟩ := DataW.trod_struct Tryz.underlying27 h
  have hl' : cs.length = 7 := hl.trans (by kernel_rfl)
  match cs, hl', xs, hlen with
  | [c0, c1, c2, c3, c4, c5, c6], _, [y0, y1, y2, y3, y4, y5, y6], _ =>
    obtain ⟨a0, e0, r0⟩ := int_trod (x := y0) (hf 0 _ rfl)
    obtain ⟨a1, e1, r1⟩ := int_trod (x := y1) (hf 1 _ rfl)
    obtain ⟨f, fr, e2, s2, r2⟩ := sls_trod (x := y2) (hf 2 _ rfl)
    obtain ⟨b, bk, e3, s3, r3⟩ := sls_trod (x := y3) (hf 3 _ rfl)
    obtain ⟨c, cr, e4, s4, r4⟩ := slk_trod (x := y4) (hf 4 _ rfl)
    obtain ⟨l, lp, e5, s5, r5, f5⟩ := slf_trod (x := y5) (hf 5 _ rfl)
    obtain ⟨d, dr, e6, s6, r6⟩ := sl_trod (x := y6) (hf 6 _ rfl)
    have e0' : [c0] = [Value.int .i64 a0] := e0
    have e1' : [c1] = [Value.int .i64 a1] := e1
    have e2' : [c2] = [f] := e2
    have e3' : [c3] = [b] := e3
    have e4' : [c4] = [c] := e4
    have e5' : [c5] = [l] := e5
    have e6' : [c6] = [d] := e6
    simp only [List.cons.injEq, and_true] at e0' e1' e2' e3' e4' e5' e6'
    exact ⟨f, b, c, l, d, ⟨a0, a1, fr, bk, cr, lp, dr⟩, by rw [e0', e1', e2', e3', e4', e5', e6'], ⟨s2, s3, s4, s5, s6⟩, ⟨r0, r1, r2, r3, r4, r5, r6, f5⟩⟩
theorem open_Mac {r : Reach} {base : Nat} {v : Value} {d : DataW H} {p : List MemPlace} (hval : Value.okWide Tryz.prog w r base 27 v) (h : DataW.Trod enc Tryz.prog w 0 spare held 27 v d p) :
    ∃ f b c l d m, v = .agg #[.int .i64 m.wd, .int .i64 m.rk, f, b, c, l, d] ∧ SlM w w.heap.size f b c l d m ∧ MacR m := by
  obtain ⟨cs, rfl, _⟩ := okWide_struct Tryz.underlying27 hval
  obtain ⟨fuel, hf⟩ := h
  obtain ⟨f, b, c, l, d, m, hc, hr⟩ := mac_trod hf
  have hc' : cs.toList = _ := hc
  exact ⟨f, b, c, l, d, m, by rw [← hc'], hr⟩
end
theorem lenSS_prs {L : List (List Int)} (h : Five L) : lenSS L = lenSS (prs L) + 5 * L.length := by
  induction L with
  | nil => rfl
  | cons o L ih =>
    have h1 := h o (by simp)
    have h2 := ih fun o ho => h o (by simp [ho])
    have e : prs (o :: L) = o.drop 5 :: prs L := rfl
    rw [e]
    simp only [lenSS, List.length_drop, List.length_cons]
    omega
/-- The bounds that the marks want, from the size. -/
theorem Mac.bounds {m : Mac} (h5 : Five m.lp) (hs : m.size ≤ 1048576) : m.marks ≤ 8000000 ∧ m.cr.length ≤ 1048576 := by
  unfold Mac.size at hs
  unfold Mac.marks
  rw [lenSS_prs h5]
  omega
end Go.Proofs.YtbefioljddhhpaaGreat
