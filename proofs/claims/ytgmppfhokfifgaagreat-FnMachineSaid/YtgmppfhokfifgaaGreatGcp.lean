/-
  Contract: the program's copyLists.
-/
import Derived.Test.YtgmppfhokfifgaaGreatGmg
import Derived.Test.YtgmppfhokfifgaaGreatSlib
import Derived.Test.YtgmppfhokfifgaaGreatGma
import Derived.Test.YtgmppfhokfifgaaGreatGmf
import Derived.Test.YtgmppfhokfifgaaGreatGmm
import Derived.Test.YtgmppfhokfifgaaGreatGmc
import Derived.Test.YtgmppfhokfifgaaGreatMsj
namespace Go.Proofs.YtgmppfhokfifgaaGreat
set_option maxRecDepth 10000
open Go.RowKit

def filS (L : List (List Int)) (k : Nat) : List (List Int) := L.take k ++ List.replicate (L.length - k) []
theorem filS_len (L : List (List Int)) (k : Nat) (h : k ≤ L.length) : (filS L k).length = L.length := by simp [filS]; omega
theorem filS_zero (L : List (List Int)) : filS L 0 = List.replicate L.length [] := by simp [filS]
theorem filS_all (L : List (List Int)) : filS L L.length = L := by simp [filS]
theorem filS_set (L : List (List Int)) (k : Nat) (h : k < L.length) : (filS L k).set k (gl L k) = filS L (k + 1) := by
  unfold filS
  have hl : (L.take k).length = k := by simp; omega
  rw [List.set_append_right _ _ (by omega), hl, Nat.sub_self]
  obtain ⟨m, hm⟩ : ∃ m, L.length - k = m + 1 := ⟨L.length - k - 1, by omega⟩
  rw [hm, List.replicate_succ, List.set_cons_zero, take_gl h, List.append_assoc, show L.length - (k + 1) = m from by omega]
  rfl
/-- Rows of rows to read, at the entry's world and later ones. -/
theorem SlS.rowsC {w : World} {B : Nat} {v : Value} {xss : List (List Int)} (h : SlS w B v xss) (hB : B ≤ w.heap.size) :
    ∃ A cap, v = .slice A xss.length cap ∧ (0 < xss.length → ∃ p o, A = some ⟨p, o, none⟩ ∧ p < B ∧ ∀ k, k < xss.length → ∃ A c, ∀ w', Below w.heap.size w w' → w'.cell? ⟨p, o + k, none⟩ = some (.slice A (gl xss k).length c) ∧ Sl w' B (.slice A (gl xss k).length c) (gl xss k)) := by
  obtain ⟨A, cap, e, h2, h3, h4, h5⟩ := h
  refine ⟨A, cap, e, fun h0 => ?_⟩
  obtain ⟨p, o, rfl, hb, hc⟩ := h5 h0
  refine ⟨p, o, rfl, hb, fun k hk => ?_⟩
  obtain ⟨u, hu, hs⟩ := hc k hk
  obtain ⟨A2, c2, rfl, -⟩ := id hs
  refine ⟨A2, c2, fun w' hw => ⟨?_, hs.below hw hB⟩⟩
  rw [hw.cell (block_lt_of_cell hu)]; exact hu
set_option maxRecDepth 100000 in
set_option maxHeartbeats 6400000 in
theorem copyLists_any {w : World} {B : Nat} {v : Value} {xss : List (List Int)} (h : SlS w B v xss) (hB : B ≤ w.heap.size) (hl : xss.length ≤ 1000) (hr : ∀ xs ∈ xss, xs.length ≤ 1000) :
    Calls Tryz.prog 39 #[v] w fun e w' => ∃ r, e = .returned r ∧ OwS w' (fun j => w.heap.size ≤ j ∧ j < w'.heap.size) r xss ∧ Below w.heap.size w w' := by
  obtain ⟨i0, hi, hz0, hz1, hz2⟩ := info_parts sl_info
  obtain ⟨n, hn⟩ : ∃ n, n = xss.length := ⟨_, rfl⟩
  have hmk2 : ∀ W, (Instr.makeSlice 26 (.int .i64 xss.length) (.int .i64 xss.length)).run Tryz.prog W = .ok (.slice (some ⟨W.heap.size, 0, none⟩) xss.length xss.length) (W.alloc (.cells (madeCells #[.slice none 0 0] xss.length) 29)) := fun W => by
    have := run_mk (P := Tryz.prog) 26 29 i0 (.slice none 0 0) Tryz.underlying26 hi hz0 xss.length (by rw [hz2]; decide) (by omega) W
    rw [hz1, Nat.mul_one] at this
    exact this
  clear hi hz0 hz1 hz2
  obtain ⟨A, cap, rfl, hrows⟩ := h.rowsC hB
  have HRW := Lib.hid hrows
  have HR := Lib.hid hr
  obtain ⟨MC, hMC⟩ : ∃ MC, MC = madeCells #[Value.slice none 0 0] xss.length := ⟨_, rfl⟩
  have h0 : OwS (w.alloc (.cells MC 29)) (fun j => w.heap.size ≤ j ∧ j < (w.alloc (.cells MC 29)).heap.size) (.slice (some ⟨w.heap.size, 0, none⟩) xss.length xss.length) (filS xss 0) := by
    have hs : MC.size = xss.length * 1 := by rw [hMC, size_madeCells, Nat.mul_one]
    have ht : MC.toList = List.replicate xss.length (.slice none 0 0) := by rw [hMC, toList_madeCells_one]
    have := ownsRow_at (alloc_at_ w (.cells MC 29)) (z := 1) (n := xss.length) (by unfold maxLen; omega) hs
    rw [ht] at this
    rw [filS_zero]
    exact OwS.nils this fun g hg => by simp [Value.ownBlock] at hg; subst hg; simp
  have H0 := Lib.hid h0
  have HB0 := Lib.hid (al1 w (.cells MC 29))
  rw [← hMC] at hmk2
  clear h hrows hr h0 hMC hn n
  go_enter Tryz.func39, Tryz.ntmps39
  go_wp2_with fail
  go_loopw [10] (fun i wr => ∃ k : Nat, k ≤ xss.length ∧ i = .int .i64 k ∧ OwS wr (fun j => w.heap.size ≤ j ∧ j < wr.heap.size) (.slice (some ⟨w.heap.size, 0, none⟩) xss.length xss.length) (filS xss k) ∧ Below w.heap.size w wr) (fun i _ => xss.length - (intOf i).toNat)
  case atStart => exact ⟨0, Nat.zero_le _, rfl, H0.out, HB0.out⟩
  case round =>
    obtain ⟨k, hk, rfl, hx, hb⟩ := hrel
    clear H0 HB0
    have hz := hb.size
    have HB := Lib.hid hb
    clear hb
    by_cases hlt : k < xss.length
    · have hltI : (k : Int) < (xss.length : Int) := by omega
      obtain ⟨p, o, hA, hp, hrw⟩ := HRW.out (by omega)
      obtain ⟨RA, rc, hrow⟩ := hrw k hlt
      have hl4 := HR.out _ (gl_mem hlt)
      obtain ⟨c1, s1⟩ := hrow wr HB.out
      obtain ⟨g, cp, u, S2, e1, e2, e3, hru, s2, ns2, sg, put⟩ := hx.swap k (by rw [filS_len _ _ hk]; exact hlt) (fun j q => q.2)
      rw [filS_len _ _ hk] at e1
      simp only [Value.slice.injEq, Option.some.injEq, Addr.mk.injEq] at e1
      obtain ⟨⟨rfl, -, -⟩, -, rfl⟩ := e1
      have HS := Lib.hid (show Sl wr B (.slice RA (gl xss k).length rc) (gl xss k) from s1)
      have HPUT := Lib.hid put
      have HE2 := Lib.hid e2
      have HE3 := Lib.hid e3
      have hgl : w.heap.size < wr.heap.size := sg.2
      subst hA
      clear hrw hrow s1 hru s2 ns2 sg put hx e2 e3
      go_wp2_with fail
      refine (cloneInts_any _ (gl xss k) B wr HS.out (by omega) (by omega)).mono ?_
      rintro e w3 ⟨r3, rfl, ho3, hb3⟩
      obtain ⟨A3, c3, rfl, -⟩ := id (ho3.sl (Nat.le_refl _))
      have e2 : w3.cell? ⟨w.heap.size, k, none⟩ = some u := (hb3.cell (p := ⟨w.heap.size, k, none⟩) hgl).trans HE2.out
      have e3 : w3.frozen? ⟨w.heap.size, k, none⟩ = false := (hb3.frozen (p := ⟨w.heap.size, k, none⟩) hgl).trans HE3.out
      have hx4 := HPUT.out (.slice A3 (gl xss k).length c3) (gl xss k) w3 (fun j => wr.heap.size ≤ j ∧ j < w3.heap.size) (rw_of_ow ho3) (fun j q q2 => by omega) (ChgS.of_below hb3)
      rw [filS_set _ _ hlt] at hx4
      have hz3 := hb3.size
      have hx5 : OwS (w3.setCell ⟨w.heap.size, k, none⟩ (.slice A3 (gl xss k).length c3)) (fun j => w.heap.size ≤ j ∧ j < (w3.setCell ⟨w.heap.size, k, none⟩ (.slice A3 (gl xss k).length c3)).heap.size) (.slice (some ⟨w.heap.size, 0, none⟩) xss.length xss.length) (filS xss (k + 1)) := hx4.mono fun j q => by
        have e : (w3.setCell ⟨w.heap.size, k, none⟩ (.slice A3 (gl xss k).length c3)).heap.size = w3.heap.size := by simp [World.setCell]
        rw [e]
        rcases q with q | q <;> omega
      have HX5 := Lib.hid hx5
      have HB5 := Lib.hid (setB (p := ⟨w.heap.size, k, none⟩) (x := .slice A3 (gl xss k).length c3) (Nat.le_refl _) (HB.out.trans (hb3.mono hz)))
      clear hx4 hx5 hb3 ho3 HPUT c1
      go_wp2_with fail
      go_roundw
      case rel => exact ⟨k + 1, by omega, by go_num, HX5.out, HB5.out⟩
      case measure => simp [intOf]; omega
    · obtain rfl : k = xss.length := by omega
      rw [filS_all] at hx
      have HX := Lib.hid hx
      clear hx
      go_wp2
      go_ret
      exact ⟨_, rfl, HX.out, HB.out⟩
end Go.Proofs.YtgmppfhokfifgaaGreat
/-
  Contracts: slices.Clone of carriers and of descriptions (the cells are copied; descriptions keep their parents' old slices).
-/
namespace Go.Proofs.YtgmppfhokfifgaaGreat
set_option maxRecDepth 10000
open Go.RowKit

theorem wpl_append_cells {t e : TypeId} {size bytes : Nat} {z : Value} (ht : Tryz.prog.underlying t = some (.slice e)) (hinfo : (Tryz.prog.info? e).map (fun i => (i.zero, i.size, i.bytes)) = some (some z, size, bytes)) (hz : z.cells.size = size) (hs0 : 0 < size) (hby : bytes ≤ 100)
    {ops : Array Oper} {rest : List Oper} {o : Oper} {a : Act} {Q : Exit → Act → World → Prop} (hgd : o.guard = none) (s x : Operand)
    (ho : o.op = .call { callee := .builtin .append, args := #[s, x], argTypes := #[t, t] })
    (w : World) (lo hi : Nat) (A : Option Addr) (n2 cap2 : Nat) (v : Value) (n : Nat) (us news : List Value) (hs : a.eval s = v) (hx : a.eval x = .slice A n2 cap2) (hA : A = none → n2 = 0 ∧ cap2 = 0) (hcell : ∀ ad, A = some ad → ∀ j u, news[j]? = some u → w.cell? (ad.add j) = some u)
    (hown : OwR e size w lo hi v n us) (hlo : lo ≤ w.heap.size) (hlen : n + n2 ≤ 1000000000) (hnl : news.length = n2 * size) (h1 : ∀ u ∈ news, u.oneCell' = true)
    (h : ∀ v' w', OwR e size w' lo w'.heap.size v' (n + n2) (us ++ news) → w.grownBy w' v.ownBlock → (v'.ownBlock = v.ownBlock ∨ ∀ g, v'.ownBlock = some g → w.heap.size ≤ g) → wpList Tryz.prog ops Q rest (a.put o.dst v') w') :
    wpList Tryz.prog ops Q (o :: rest) a w :=
  wpList_plain hgd fun _ hK => op_append_cells ht hinfo hz hs0 hby s x ho w lo hi A n2 cap2 v n us news hs hx hA hcell hown hlo hlen hnl h1 fun v' w' h2 h3 h4 => hK _ _ (h v' w' h2 h3 h4)
/-- The cells of a slice of structures, as a list. -/
theorem SlC.valsL {z : Nat} {w : World} {B : Nat} {v : Value} {n : Nat} {cs : List Cl} (h : SlC z w B v n cs) (hl : cs.length = n * z) :
    ∃ A cap, ∃ vs : List Value, v = .slice A n cap ∧ (A = none → n = 0 ∧ cap = 0) ∧ vs.length = n * z ∧ (∀ ad, A = some ad → ∀ j u, vs[j]? = some u → w.cell? (ad.add j) = some u) ∧ ∀ (j : Nat) (c : Cl) (u : Value), cs[j]? = some c → vs[j]? = some u → ClR w B c u := by
  obtain ⟨A, cap, e, hc, hm, ⟨h4, hn⟩, h5⟩ := h
  by_cases h0 : 0 < n
  · obtain ⟨b, off, rfl, hb, hk⟩ := h5 h0
    refine ⟨_, cap, (List.range (n * z)).map fun j => (w.cell? ⟨b, off + j, none⟩).getD undef, e, (fun q => by cases q), by simp, fun ad had j u hu => ?_, fun j c u hcj hu => ?_⟩
    · injection had with had
      subst had
      have hj : j < n * z := by have := (List.getElem?_eq_some_iff.1 hu).1; simpa using this
      rw [List.getElem?_map, List.getElem?_range hj] at hu
      simp only [Option.map_some, Option.some.injEq] at hu
      obtain ⟨u2, q1, -⟩ := hk j cs[j] (List.getElem?_eq_getElem (by omega))
      rw [Addr.add_lit, ← hu, q1]
      rfl
    · have hj : j < n * z := by have := (List.getElem?_eq_some_iff.1 hu).1; simpa using this
      rw [List.getElem?_map, List.getElem?_range hj] at hu
      simp only [Option.map_some, Option.some.injEq] at hu
      obtain ⟨u2, q1, q2⟩ := hk j c hcj
      rw [q1] at hu
      subst hu
      exact q2
  · obtain rfl : n = 0 := by omega
    refine ⟨A, cap, [], e, fun q => ⟨rfl, hn q⟩, by simp, fun ad _ j u hu => by simp at hu, fun j c u _ hu => by simp at hu⟩
set_option maxHeartbeats 1600000 in
theorem cloneCars_any {w : World} {A : Option Addr} {n cap : Nat} {vs : List Value} (hn : A = none → n = 0 ∧ cap = 0) (hl : vs.length = n * 2) (hc : ∀ ad, A = some ad → ∀ j u, vs[j]? = some u → w.cell? (ad.add j) = some u) (hlt : ∀ ad, A = some ad → 0 < n → ad.block < w.heap.size) (h1 : ∀ u ∈ vs, u.oneCell' = true) (hsz : n ≤ 1000000) :
    Calls Tryz.prog 40 #[.slice A n cap] w fun e w' => ∃ r, e = .returned r ∧ OwR 64 2 w' w.heap.size w'.heap.size r n vs ∧ Below w.heap.size w w' := by
  cases A with
  | none =>
    obtain ⟨rfl, rfl⟩ := hn rfl
    obtain rfl : vs = [] := List.eq_nil_of_length_eq_zero (by omega)
    have hq := fun W => Lib.run_eql_slice_nil (P := Tryz.prog) W 27 64 none 0 0 0 0 Tryz.underlying27
    clear hc hlt h1 hn hl
    go_enter Tryz.func40, Tryz.ntmps40
    go_wp2
    go_ret
    exact ⟨_, rfl, OwR.nil _ _ _ _ _, Below.refl _ _⟩
  | some ad =>
    have hq := fun W => Lib.run_eql_slice_nil (P := Tryz.prog) W 27 64 (some ad) n cap 0 0 Tryz.underlying27
    have hO := OwR.empty 64 2 w
    have HC : Hid (∀ ad', some ad = some ad' → ∀ j u, vs[j]? = some u → (w.alloc (.cells #[] 64)).cell? (ad'.add j) = some u) := Lib.hid fun ad' e j u hu => by
      have hj := (List.getElem?_eq_some_iff.1 hu).1
      injection e with e
      subst e
      rw [(al1 w (.cells #[] 64)).cell (by have := hlt ad rfl (by omega); unfold Addr.add; split <;> exact this)]
      exact hc ad rfl j u hu
    have HH := Lib.hid h1
    clear hc hlt h1 hn
    go_enter Tryz.func40, Tryz.ntmps40
    go_wp2_with (at_builtin; refine wpl_append_cells Tryz.underlying27 car_info rfl (by decide) (by decide) rfl _ _ rfl _ _ _ (some ad) n cap _ 0 [] vs rfl rfl (fun q => by cases q) HC.out hO (by simp) (by omega) hl HH.out ?_; intro v1 w1 hO1 hg1 _)
    have hbw := hO.grown hg1 (Nat.le_refl _) (by simp)
    rw [Nat.zero_add, List.nil_append] at hO1
    go_ret
    exact ⟨_, rfl, hO1, (al1 _ _).trans hbw⟩
set_option maxHeartbeats 1600000 in
theorem cloneInfs_any {w : World} {A : Option Addr} {n cap : Nat} {vs : List Value} (hn : A = none → n = 0 ∧ cap = 0) (hl : vs.length = n * 6) (hc : ∀ ad, A = some ad → ∀ j u, vs[j]? = some u → w.cell? (ad.add j) = some u) (hlt : ∀ ad, A = some ad → 0 < n → ad.block < w.heap.size) (h1 : ∀ u ∈ vs, u.oneCell' = true) (hsz : n ≤ 1000000) :
    Calls Tryz.prog 41 #[.slice A n cap] w fun e w' => ∃ r, e = .returned r ∧ OwR 47 6 w' w.heap.size w'.heap.size r n vs ∧ Below w.heap.size w w' := by
  cases A with
  | none =>
    obtain ⟨rfl, rfl⟩ := hn rfl
    obtain rfl : vs = [] := List.eq_nil_of_length_eq_zero (by omega)
    have hq := fun W => Lib.run_eql_slice_nil (P := Tryz.prog) W 28 47 none 0 0 0 0 Tryz.underlying28
    clear hc hlt h1 hn hl
    go_enter Tryz.func41, Tryz.ntmps41
    go_wp2
    go_ret
    exact ⟨_, rfl, OwR.nil _ _ _ _ _, Below.refl _ _⟩
  | some ad =>
    have hq := fun W => Lib.run_eql_slice_nil (P := Tryz.prog) W 28 47 (some ad) n cap 0 0 Tryz.underlying28
    have hO := OwR.empty 47 6 w
    have HC : Hid (∀ ad', some ad = some ad' → ∀ j u, vs[j]? = some u → (w.alloc (.cells #[] 47)).cell? (ad'.add j) = some u) := Lib.hid fun ad' e j u hu => by
      have hj := (List.getElem?_eq_some_iff.1 hu).1
      injection e with e
      subst e
      rw [(al1 w (.cells #[] 47)).cell (by have := hlt ad rfl (by omega); unfold Addr.add; split <;> exact this)]
      exact hc ad rfl j u hu
    have HH := Lib.hid h1
    clear hc hlt h1 hn
    go_enter Tryz.func41, Tryz.ntmps41
    go_wp2_with (at_builtin; refine wpl_append_cells Tryz.underlying28 info_info rfl (by decide) (by decide) rfl _ _ rfl _ _ _ (some ad) n cap _ 0 [] vs rfl rfl (fun q => by cases q) HC.out hO (by simp) (by omega) hl HH.out ?_; intro v1 w1 hO1 hg1 _)
    have hbw := hO.grown hg1 (Nat.le_refl _) (by simp)
    rw [Nat.zero_add, List.nil_append] at hO1
    go_ret
    exact ⟨_, rfl, hO1, (al1 _ _).trans hbw⟩
end Go.Proofs.YtgmppfhokfifgaaGreat
/-
  Contract: the program's copyMachine. Printed by gen_cpm.py.
-/
namespace Go.Proofs.YtgmppfhokfifgaaGreat
set_option maxRecDepth 10000
open Go.RowKit

/-- The cells of descriptions of which the first k have their parents copied. -/
def MixC (L : List (List Int)) (vs : List Value) (k : Nat) (cs : List Cl) : Prop :=
  cs.length = L.length * 6 ∧ (∀ i, i < k * 6 → cs[i]? = (infC L)[i]?) ∧ ∀ i, k * 6 ≤ i → cs[i]? = (vs.map Cl.p)[i]?
theorem MixC.zero {L : List (List Int)} {vs : List Value} (h : vs.length = L.length * 6) : MixC L vs 0 (vs.map Cl.p) := ⟨by simpa using h, fun i hi => by omega, fun i _ => rfl⟩
theorem MixC.all {L : List (List Int)} {vs : List Value} {cs : List Cl} (h : MixC L vs L.length cs) : cs = infC L := by
  obtain ⟨h1, h2, -⟩ := h
  apply List.ext_getElem?
  intro i
  by_cases hi : i < L.length * 6
  · exact h2 i hi
  · rw [List.getElem?_eq_none (by omega), List.getElem?_eq_none (by rw [infC_len]; omega)]
theorem MixC.step {w : World} {B : Nat} {L : List (List Int)} {vs : List Value} {k : Nat} {cs : List Cl} (h : MixC L vs k cs) (hk : k < L.length) (hl : vs.length = L.length * 6) (hv : ∀ (j : Nat) (c : Cl) (u : Value), (infC L)[j]? = some c → vs[j]? = some u → ClR w B c u) : MixC L vs (k + 1) (cs.set (k * 6 + 5) (.s ((gl L k).drop 5))) := by
  obtain ⟨h1, h2, h3⟩ := h
  refine ⟨by rw [List.length_set]; exact h1, fun i hi => ?_, fun i hi => ?_⟩
  · by_cases h5 : i = k * 6 + 5
    · subst h5
      rw [List.getElem?_set_self (by omega), infC_get hk (by omega)]
      rfl
    · rw [List.getElem?_set_ne (fun e => h5 e.symm)]
      by_cases h6 : i < k * 6
      · exact h2 i h6
      · rw [h3 i (by omega)]
        obtain ⟨j, hj, rfl⟩ : ∃ j, j < 5 ∧ i = k * 6 + j := ⟨i - k * 6, by omega, by omega⟩
        have hiv : k * 6 + j < vs.length := by omega
        have e1 : (infC L)[k * 6 + j]? = some (.p (.int .i64 (gi (gl L k) j))) := by
          rw [infC_get hk (by omega)]
          match j, hj with
          | 0, _ => rfl
          | 1, _ => rfl
          | 2, _ => rfl
          | 3, _ => rfl
          | 4, _ => rfl
        have e2 := hv _ _ _ e1 (List.getElem?_eq_getElem hiv)
        simp only [ClR] at e2
        rw [e1, List.getElem?_map, List.getElem?_eq_getElem hiv, e2]
        rfl
  · rw [List.getElem?_set_ne (by omega)]
    exact h3 i (by omega)
theorem cells_lt {w : World} {A : Option Addr} {n z : Nat} {vs : List Value} (hl : vs.length = n * z) (hz : 0 < z) (hc : ∀ ad, A = some ad → ∀ j u, vs[j]? = some u → w.cell? (ad.add j) = some u) : ∀ ad, A = some ad → 0 < n → ad.block < w.heap.size := fun ad e h0 => by
  have hp : 0 < vs.length := by rw [hl]; exact Nat.mul_pos h0 hz
  have := block_lt_of_cell (hc ad e 0 vs[0] (List.getElem?_eq_getElem hp))
  simpa [Addr.add] using this
theorem infC_kinds (L : List (List Int)) : ∀ c ∈ infC L, (∃ x, c = .p (.int .i64 x)) ∨ ∃ xs, c = .s xs := by
  intro c hc
  unfold infC at hc
  rw [List.mem_flatten] at hc
  obtain ⟨l, hl, hcl⟩ := hc
  obtain ⟨o, -, rfl⟩ := List.mem_map.1 hl
  simp only [infC1, List.mem_cons, List.not_mem_nil, or_false] at hcl
  rcases hcl with rfl | rfl | rfl | rfl | rfl | rfl
  all_goals first | exact .inl ⟨_, rfl⟩ | exact .inr ⟨_, rfl⟩
theorem vs_one {w : World} {B : Nat} {L : List (List Int)} {vs : List Value} (hl : vs.length = L.length * 6) (hv : ∀ (j : Nat) (c : Cl) (u : Value), (infC L)[j]? = some c → vs[j]? = some u → ClR w B c u) : ∀ u ∈ vs, u.oneCell' = true := fun u hu => by
  obtain ⟨j, hj, rfl⟩ := List.getElem_of_mem hu
  have hj2 : j < (infC L).length := by rw [infC_len]; omega
  have h := hv j _ _ (List.getElem?_eq_getElem hj2) (List.getElem?_eq_getElem hj)
  rcases infC_kinds L _ (List.getElem_mem hj2) with ⟨x, e⟩ | ⟨xs, e⟩
  · rw [e] at h
    simp only [ClR] at h
    rw [h]; rfl
  · rw [e] at h
    obtain ⟨A, c, e2, -⟩ := h
    rw [e2]; rfl
theorem OwM.of5 {w : World} {a0 a1 a2 a3 a4 a5 : Nat} {f b c l d : Value} {m : Mac} (h0 : OwS w (fun j => a0 ≤ j ∧ j < a1) f m.fr) (h1 : OwS w (fun j => a1 ≤ j ∧ j < a2) b m.bk) (h2 : OwC 64 2 w (fun j => a2 ≤ j ∧ j < a3) c m.cr.length (carC m.cr)) (h3 : OwC 47 6 w (fun j => a3 ≤ j ∧ j < a4) l m.lp.length (infC m.lp)) (h4 : (rw_ d m.dr).p w (fun j => a4 ≤ j ∧ j < a5)) (e1 : a0 ≤ a1) (e2 : a1 ≤ a2) (e3 : a2 ≤ a3) (e4 : a3 ≤ a4) (e5 : a4 ≤ a5) :
    OwM w (fun j => a0 ≤ j ∧ j < a5) f b c l d m := by
  refine ⟨fun j => if j < a1 then 0 else if j < a2 then 1 else if j < a3 then 2 else if j < a4 then 3 else 4, h0.mono fun j q => ⟨by omega, ?_⟩, h1.mono fun j q => ⟨by omega, ?_⟩, h2.mono fun j q => ⟨by omega, ?_⟩, h3.mono fun j q => ⟨by omega, ?_⟩, rw_mono h4 fun j q => ⟨by omega, ?_⟩⟩
  · rw [if_pos q.2]
  · rw [if_neg (by omega), if_pos q.2]
  · rw [if_neg (by omega), if_neg (by omega), if_pos q.2]
  · rw [if_neg (by omega), if_neg (by omega), if_neg (by omega), if_pos q.2]
  · rw [if_neg (by omega), if_neg (by omega), if_neg (by omega), if_neg (by omega)]
set_option maxRecDepth 100000 in
set_option maxHeartbeats 6400000 in
theorem copyMachine_any {w : World} {B : Nat} {f b c l d : Value} {m : Mac} (h : SlM w B f b c l d m) (hB : B ≤ w.heap.size) (hok : OkM m) :
    Calls Tryz.prog 17 #[.agg #[.int .i64 m.wd, .int .i64 m.rk, f, b, c, l, d]] w fun e w' => ∃ f' b' c' l' d', e = .returned (.agg #[.int .i64 m.wd, .int .i64 m.rk, f', b', c', l', d']) ∧ OwM w' (fun j => w.heap.size ≤ j ∧ j < w'.heap.size) f' b' c' l' d' m ∧ Below w.heap.size w w' := by
  obtain ⟨fA, fc, rfl, -⟩ := id h.fr
  obtain ⟨bA, bc, rfl, -⟩ := id h.bk
  obtain ⟨cA, cc, rfl, -⟩ := id h.cr
  obtain ⟨lA, lc, vs, e, hln, hvl, hvc, hvr⟩ := h.lp.valsL (infC_len _)
  subst e
  obtain ⟨dA, dc, rfl, -⟩ := id h.dr
  have hfl : m.fr.length ≤ 24 := by have := hok.fr; have := hok.wd; omega
  have hbl : m.bk.length ≤ 24 := by have := hok.bk; have := hok.wd; omega
  have hll := hok.lp
  have hdl := hok.drLen
  have hcl : m.cr.length ≤ 4 := by have := hok.cr; omega
  have HM := Lib.hid h
  have HOK := Lib.hid hok
  have HV := Lib.hid (And.intro hln (And.intro hvl (And.intro hvc hvr)))
  clear h hok hln hvl hvc hvr
  have HX1 : Hid (((w.alloc (.cells #[.int .i64 m.wd, .int .i64 m.rk, .slice fA m.fr.length fc, .slice bA m.bk.length bc, .slice cA m.cr.length cc, .slice lA m.lp.length lc, .slice dA m.dr.length dc] 31)).alloc (.cells #[.int .i64 0, .int .i64 0, .slice none 0 0, .slice none 0 0, .slice none 0 0, .slice none 0 0, .slice none 0 0] 31)).heap[w.heap.size]? = some (.cells #[.int .i64 m.wd, .int .i64 m.rk, .slice fA m.fr.length fc, .slice bA m.bk.length bc, .slice cA m.cr.length cc, .slice lA m.lp.length lc, .slice dA m.dr.length dc] 31)) := Lib.hid ((Below.heap_alloc _ _ _ (by simp)).trans (alloc_at_ w _))
  have HR1 : Hid (((w.alloc (.cells #[.int .i64 m.wd, .int .i64 m.rk, .slice fA m.fr.length fc, .slice bA m.bk.length bc, .slice cA m.cr.length cc, .slice lA m.lp.length lc, .slice dA m.dr.length dc] 31)).alloc (.cells #[.int .i64 0, .int .i64 0, .slice none 0 0, .slice none 0 0, .slice none 0 0, .slice none 0 0, .slice none 0 0] 31)).heap[w.heap.size + 1]? = some (.cells #[.int .i64 0, .int .i64 0, .slice none 0 0, .slice none 0 0, .slice none 0 0, .slice none 0 0, .slice none 0 0] 31)) := Lib.hid (by have := alloc_at_ (w.alloc (.cells #[.int .i64 m.wd, .int .i64 m.rk, .slice fA m.fr.length fc, .slice bA m.bk.length bc, .slice cA m.cr.length cc, .slice lA m.lp.length lc, .slice dA m.dr.length dc] 31)) (.cells #[.int .i64 0, .int .i64 0, .slice none 0 0, .slice none 0 0, .slice none 0 0, .slice none 0 0, .slice none 0 0] 31); rwa [World.size_alloc] at this)
  have HB1 := Lib.hid (al2 w (.cells #[.int .i64 m.wd, .int .i64 m.rk, .slice fA m.fr.length fc, .slice bA m.bk.length bc, .slice cA m.cr.length cc, .slice lA m.lp.length lc, .slice dA m.dr.length dc] 31) (.cells #[.int .i64 0, .int .i64 0, .slice none 0 0, .slice none 0 0, .slice none 0 0, .slice none 0 0, .slice none 0 0] 31))
  have HZ1 : Hid (w.heap.size + 2 ≤ ((w.alloc (.cells #[.int .i64 m.wd, .int .i64 m.rk, .slice fA m.fr.length fc, .slice bA m.bk.length bc, .slice cA m.cr.length cc, .slice lA m.lp.length lc, .slice dA m.dr.length dc] 31)).alloc (.cells #[.int .i64 0, .int .i64 0, .slice none 0 0, .slice none 0 0, .slice none 0 0, .slice none 0 0, .slice none 0 0] 31)).heap.size) := Lib.hid (by simp)
  go_enter Tryz.func17, Tryz.ntmps17
  go_wp2_with fail
  generalize (w.alloc (.cells #[.int .i64 m.wd, .int .i64 m.rk, .slice fA m.fr.length fc, .slice bA m.bk.length bc, .slice cA m.cr.length cc, .slice lA m.lp.length lc, .slice dA m.dr.length dc] 31)).alloc (.cells #[.int .i64 0, .int .i64 0, .slice none 0 0, .slice none 0 0, .slice none 0 0, .slice none 0 0, .slice none 0 0] 31) = w1 at *
  have hz1 := HZ1.out
  refine (copyLists_any (HM.out.below HB1.out hB).fr (by have := HB1.out.size; omega) (by omega) (fun xs hx => Nat.le_trans (HOK.out.sf xs hx) (by omega))).mono ?_
  rintro e v2 ⟨r2, rfl, ho2, hq2⟩
  obtain ⟨A2, c2, rfl, -⟩ := id (ho2.sl (fun k q => q.2))
  have hzq := hq2.size
  have hx := (hq2.block w.heap.size (by omega)).trans HX1.out
  obtain ⟨⟨-, -, y2, y3, y4, y5, y6⟩, yf, -⟩ := box7 hx
  have yf2 := yf 2
  have HX2 : Hid ((v2.setCell ⟨w.heap.size, 2, none⟩ (.slice A2 m.fr.length c2)).heap[w.heap.size]? = _) := Lib.hid (heap_setCell_at (k := 2) (.slice A2 m.fr.length c2) hx)
  have HR2 : Hid ((v2.setCell ⟨w.heap.size, 2, none⟩ (.slice A2 m.fr.length c2)).heap[w.heap.size + 1]? = _) := Lib.hid ((Below.heap_setCell _ _ _ _ (by simp)).trans ((hq2.block (w.heap.size + 1) (by omega)).trans HR1.out))
  have HB2 : Hid (Below w.heap.size w (v2.setCell ⟨w.heap.size, 2, none⟩ (.slice A2 m.fr.length c2))) := Lib.hid (setB (Nat.le_refl _) (HB1.out.trans (hq2.mono HB1.out.size)))
  have HK2 : Hid (∀ k, w.heap.size + 2 ≤ k → k < w1.heap.size → (v2.setCell ⟨w.heap.size, 2, none⟩ (.slice A2 m.fr.length c2)).heap[k]? = w1.heap[k]?) := Lib.hid fun k k1 k2 => (Below.heap_setCell _ _ _ _ (by simp only; omega)).trans (hq2.block k k2)
  have HS2 : Hid ((v2.setCell ⟨w.heap.size, 2, none⟩ (.slice A2 m.fr.length c2)).heap.size = v2.heap.size) := Lib.hid (by simp [World.setCell])
  have HI2 : Hid (OwS (v2.setCell ⟨w.heap.size, 2, none⟩ (.slice A2 m.fr.length c2)) (fun k => w1.heap.size ≤ k ∧ k < (v2.setCell ⟨w.heap.size, 2, none⟩ (.slice A2 m.fr.length c2)).heap.size) (.slice A2 m.fr.length c2) m.fr) := Lib.hid ((ho2.keep (fun k q => Below.heap_setCell _ _ _ _ (by simp only; omega))).mono fun k q => ⟨q.1, by rw [HS2.out]; exact q.2⟩)
  have hz2 : w1.heap.size ≤ (v2.setCell ⟨w.heap.size, 2, none⟩ (.slice A2 m.fr.length c2)).heap.size := by rw [HS2.out]; exact hzq
  clear hq2 ho2 hx yf hzq
  go_wp2_with fail
  generalize (v2.setCell ⟨w.heap.size, 2, none⟩ (.slice A2 m.fr.length c2)) = w2 at *
  clear y2 y3 y4 y5 y6 yf2
  refine (copyLists_any (HM.out.below HB2.out hB).bk (by have := HB2.out.size; omega) (by omega) (fun xs hx => Nat.le_trans (HOK.out.sb xs hx) (by omega))).mono ?_
  rintro e v3 ⟨r3, rfl, ho3, hq3⟩
  obtain ⟨A3, c3, rfl, -⟩ := id (ho3.sl (fun k q => q.2))
  have hzq := hq3.size
  have hx := (hq3.block w.heap.size (by omega)).trans HX2.out
  obtain ⟨⟨-, -, y2, y3, y4, y5, y6⟩, yf, -⟩ := box7 hx
  have yf3 := yf 3
  have HX3 : Hid ((v3.setCell ⟨w.heap.size, 3, none⟩ (.slice A3 m.bk.length c3)).heap[w.heap.size]? = _) := Lib.hid (heap_setCell_at (k := 3) (.slice A3 m.bk.length c3) hx)
  have HR3 : Hid ((v3.setCell ⟨w.heap.size, 3, none⟩ (.slice A3 m.bk.length c3)).heap[w.heap.size + 1]? = _) := Lib.hid ((Below.heap_setCell _ _ _ _ (by simp)).trans ((hq3.block (w.heap.size + 1) (by omega)).trans HR2.out))
  have HB3 : Hid (Below w.heap.size w (v3.setCell ⟨w.heap.size, 3, none⟩ (.slice A3 m.bk.length c3))) := Lib.hid (setB (Nat.le_refl _) (HB2.out.trans (hq3.mono HB2.out.size)))
  have HK3 : Hid (∀ k, w.heap.size + 2 ≤ k → k < w2.heap.size → (v3.setCell ⟨w.heap.size, 3, none⟩ (.slice A3 m.bk.length c3)).heap[k]? = w2.heap[k]?) := Lib.hid fun k k1 k2 => (Below.heap_setCell _ _ _ _ (by simp only; omega)).trans (hq3.block k k2)
  have HS3 : Hid ((v3.setCell ⟨w.heap.size, 3, none⟩ (.slice A3 m.bk.length c3)).heap.size = v3.heap.size) := Lib.hid (by simp [World.setCell])
  have HI3 : Hid (OwS (v3.setCell ⟨w.heap.size, 3, none⟩ (.slice A3 m.bk.length c3)) (fun k => w2.heap.size ≤ k ∧ k < (v3.setCell ⟨w.heap.size, 3, none⟩ (.slice A3 m.bk.length c3)).heap.size) (.slice A3 m.bk.length c3) m.bk) := Lib.hid ((ho3.keep (fun k q => Below.heap_setCell _ _ _ _ (by simp only; omega))).mono fun k q => ⟨q.1, by rw [HS3.out]; exact q.2⟩)
  have hz3 : w2.heap.size ≤ (v3.setCell ⟨w.heap.size, 3, none⟩ (.slice A3 m.bk.length c3)).heap.size := by rw [HS3.out]; exact hzq
  clear hq3 ho3 hx yf hzq
  go_wp2_with fail
  generalize (v3.setCell ⟨w.heap.size, 3, none⟩ (.slice A3 m.bk.length c3)) = w3 at *
  clear y2 y3 y4 y5 y6 yf3
  have hk3 := (HM.out.below HB3.out hB).cr.carVals
  have HK3c := Lib.hid (cloneCars_any (w := w3) (A := cA) (n := m.cr.length) (cap := cc) (vs := carV m.cr) hk3.2.1 (carV_len _) hk3.2.2 (cells_lt (carV_len _) (by omega) hk3.2.2) (carV_one _) (by omega))
  clear hk3
  refine (HK3c.out).mono ?_
  rintro e v4 ⟨r4, rfl, ho4, hq4⟩
  obtain ⟨A4, c4, rfl⟩ : ∃ A c, r4 = .slice A m.cr.length c := by
    rcases ho4.form with ⟨rfl, h0, -⟩ | ⟨q, cap, rfl, -⟩
    · exact ⟨none, 0, by rw [h0]⟩
    · exact ⟨_, cap, rfl⟩
  have hzq := hq4.size
  have hx := (hq4.block w.heap.size (by omega)).trans HX3.out
  obtain ⟨⟨-, -, y2, y3, y4, y5, y6⟩, yf, -⟩ := box7 hx
  have yf4 := yf 4
  have HX4 : Hid ((v4.setCell ⟨w.heap.size, 4, none⟩ (.slice A4 m.cr.length c4)).heap[w.heap.size]? = _) := Lib.hid (heap_setCell_at (k := 4) (.slice A4 m.cr.length c4) hx)
  have HR4 : Hid ((v4.setCell ⟨w.heap.size, 4, none⟩ (.slice A4 m.cr.length c4)).heap[w.heap.size + 1]? = _) := Lib.hid ((Below.heap_setCell _ _ _ _ (by simp)).trans ((hq4.block (w.heap.size + 1) (by omega)).trans HR3.out))
  have HB4 : Hid (Below w.heap.size w (v4.setCell ⟨w.heap.size, 4, none⟩ (.slice A4 m.cr.length c4))) := Lib.hid (setB (Nat.le_refl _) (HB3.out.trans (hq4.mono HB3.out.size)))
  have HK4 : Hid (∀ k, w.heap.size + 2 ≤ k → k < w3.heap.size → (v4.setCell ⟨w.heap.size, 4, none⟩ (.slice A4 m.cr.length c4)).heap[k]? = w3.heap[k]?) := Lib.hid fun k k1 k2 => (Below.heap_setCell _ _ _ _ (by simp only; omega)).trans (hq4.block k k2)
  have HS4 : Hid ((v4.setCell ⟨w.heap.size, 4, none⟩ (.slice A4 m.cr.length c4)).heap.size = v4.heap.size) := Lib.hid (by simp [World.setCell])
  have HI4 : Hid (OwC 64 2 (v4.setCell ⟨w.heap.size, 4, none⟩ (.slice A4 m.cr.length c4)) (fun k => w3.heap.size ≤ k ∧ k < (v4.setCell ⟨w.heap.size, 4, none⟩ (.slice A4 m.cr.length c4)).heap.size) (.slice A4 m.cr.length c4) m.cr.length (carC m.cr)) := Lib.hid (((owc_car ho4).keep (fun k q => Below.heap_setCell _ _ _ _ (by simp only; omega))).mono fun k q => ⟨q.1, by rw [HS4.out]; exact q.2⟩)
  have hz4 : w3.heap.size ≤ (v4.setCell ⟨w.heap.size, 4, none⟩ (.slice A4 m.cr.length c4)).heap.size := by rw [HS4.out]; exact hzq
  clear hq4 ho4 hx yf hzq
  go_wp2_with fail
  generalize (v4.setCell ⟨w.heap.size, 4, none⟩ (.slice A4 m.cr.length c4)) = w4 at *
  clear y2 y3 y4 y5 y6 yf4
  have hk4 : ∀ ad, lA = some ad → ∀ j u, vs[j]? = some u → w4.cell? (ad.add j) = some u := fun ad e j u hu => by
    have h1 := HV.out.2.2.1 ad e j u hu
    rw [HB4.out.cell (block_lt_of_cell h1)]
    exact h1
  have HK4c := Lib.hid (cloneInfs_any (w := w4) (A := lA) (n := m.lp.length) (cap := lc) (vs := vs) HV.out.1 HV.out.2.1 hk4 (cells_lt HV.out.2.1 (by omega) hk4) (vs_one HV.out.2.1 HV.out.2.2.2) (by omega))
  clear hk4
  refine (HK4c.out).mono ?_
  rintro e v5 ⟨r5, rfl, ho5, hq5⟩
  obtain ⟨A5, c5, rfl⟩ : ∃ A c, r5 = .slice A m.lp.length c := by
    rcases ho5.form with ⟨rfl, h0, -⟩ | ⟨q, cap, rfl, -⟩
    · exact ⟨none, 0, by rw [h0]⟩
    · exact ⟨_, cap, rfl⟩
  have hzq := hq5.size
  have hx := (hq5.block w.heap.size (by omega)).trans HX4.out
  obtain ⟨⟨-, -, y2, y3, y4, y5, y6⟩, yf, -⟩ := box7 hx
  have yf5 := yf 5
  have HX5 : Hid ((v5.setCell ⟨w.heap.size, 5, none⟩ (.slice A5 m.lp.length c5)).heap[w.heap.size]? = _) := Lib.hid (heap_setCell_at (k := 5) (.slice A5 m.lp.length c5) hx)
  have HR5 : Hid ((v5.setCell ⟨w.heap.size, 5, none⟩ (.slice A5 m.lp.length c5)).heap[w.heap.size + 1]? = _) := Lib.hid ((Below.heap_setCell _ _ _ _ (by simp)).trans ((hq5.block (w.heap.size + 1) (by omega)).trans HR4.out))
  have HB5 : Hid (Below w.heap.size w (v5.setCell ⟨w.heap.size, 5, none⟩ (.slice A5 m.lp.length c5))) := Lib.hid (setB (Nat.le_refl _) (HB4.out.trans (hq5.mono HB4.out.size)))
  have HK5 : Hid (∀ k, w.heap.size + 2 ≤ k → k < w4.heap.size → (v5.setCell ⟨w.heap.size, 5, none⟩ (.slice A5 m.lp.length c5)).heap[k]? = w4.heap[k]?) := Lib.hid fun k k1 k2 => (Below.heap_setCell _ _ _ _ (by simp only; omega)).trans (hq5.block k k2)
  have HS5 : Hid ((v5.setCell ⟨w.heap.size, 5, none⟩ (.slice A5 m.lp.length c5)).heap.size = v5.heap.size) := Lib.hid (by simp [World.setCell])
  have HI5 : Hid (OwC 47 6 (v5.setCell ⟨w.heap.size, 5, none⟩ (.slice A5 m.lp.length c5)) (fun k => w4.heap.size ≤ k ∧ k < (v5.setCell ⟨w.heap.size, 5, none⟩ (.slice A5 m.lp.length c5)).heap.size) (.slice A5 m.lp.length c5) m.lp.length (vs.map Cl.p)) := Lib.hid (((OwC.plain ho5.1 HV.out.2.1 (fun g q => (⟨(ho5.1.lt g q).1, ho5.2 g q⟩ : w4.heap.size ≤ g ∧ g < v5.heap.size))).keep (fun k q => Below.heap_setCell _ _ _ _ (by simp only; omega))).mono fun k q => ⟨q.1, by rw [HS5.out]; exact q.2⟩)
  have hz5 : w4.heap.size ≤ (v5.setCell ⟨w.heap.size, 5, none⟩ (.slice A5 m.lp.length c5)).heap.size := by rw [HS5.out]; exact hzq
  clear hq5 ho5 hx yf hzq
  go_wp2_with fail
  generalize (v5.setCell ⟨w.heap.size, 5, none⟩ (.slice A5 m.lp.length c5)) = w5 at *
  clear y2 y3 y4 y5 y6 yf5
  go_loopw [23] (fun i wr => ∃ (k : Nat) (cs : List Cl), k ≤ m.lp.length ∧ i = .int .i64 k ∧ MixC m.lp vs k cs ∧ OwC 47 6 wr (fun j => w4.heap.size ≤ j ∧ j < wr.heap.size) (.slice A5 m.lp.length c5) m.lp.length cs ∧ Below w4.heap.size w5 wr) (fun i _ => m.lp.length - (intOf i).toNat)
  case atStart => exact ⟨0, _, Nat.zero_le _, rfl, MixC.zero HV.out.2.1, HI5.out, Below.refl _ _⟩
  case round =>
    obtain ⟨k, cs, hk, rfl, hmx, hx, hb⟩ := hrel
    have hz := hb.size
    have hpx := (hb.block w.heap.size (by omega)).trans HX5.out
    have HBL := Lib.hid hb
    have HMX := Lib.hid hmx
    have HXC := Lib.hid hx
    have HPX := Lib.hid hpx
    have HBW := Lib.hid (HB5.out.trans (hb.mono (by omega)))
    clear hmx hx hb hpx HI5
    by_cases hlt : k < m.lp.length
    · have hltI : (k : Int) < (m.lp.length : Int) := by omega
      obtain ⟨u, hu⟩ : ∃ u, vs[k * 6 + 5]? = some u := ⟨vs[k * 6 + 5]'(by have := HV.out.2.1; omega), List.getElem?_eq_getElem (by have := HV.out.2.1; omega)⟩
      obtain ⟨ps, hps⟩ : ∃ ps, ps = (gl m.lp k).drop 5 := ⟨_, rfl⟩
      have hsu : Sl w B u ps := by
        have e1 : (infC m.lp)[k * 6 + 5]? = some (.s ps) := by rw [infC_get hlt (by omega), hps]; rfl
        exact HV.out.2.2.2 _ _ _ e1 hu
      have hpl : ps.length ≤ 4 := by
        have := HOK.out.inf k hlt
        simp only [infI, infB, Bool.and_eq_true, decide_eq_true_eq] at this
        rw [hps]
        exact this.1.1.1.2
      obtain ⟨PA, pc, rfl, -⟩ := id hsu
      have hcs : cs[k * 6 + 5]? = some (.p (.slice PA ps.length pc)) := by rw [HMX.out.2.2 _ (by omega), List.getElem?_map, hu]; rfl
      obtain ⟨q, cap, u0, e1, sq, k0, f0, v0⟩ := HXC.out.shape hcs
      have hu0 := v0 _ rfl
      subst hu0
      simp only [Value.slice.injEq] at e1
      obtain ⟨rfl, -, rfl⟩ := e1
      have hql : q < wr.heap.size := sq.2
      have HPS := Lib.hid hps
      have HSU := Lib.hid hsu
      have HK0 := Lib.hid k0
      have hpl5 : w.heap.size < wr.heap.size := by omega
      have HK8 := Lib.hid (fun (w' : World) (qq : Below wr.heap.size wr w') => show w'.cell? ⟨w.heap.size, 5, none⟩ = some (.slice (some ⟨q, 0, none⟩) m.lp.length c5) ∧ w'.cell? ⟨q, k * 6 + 5, none⟩ = some (.slice PA ps.length pc) from ⟨by rw [qq.cell hpl5]; exact (box7 HPX.out).1.2.2.2.2.2.1, (qq.cell (p := ⟨q, k * 6 + 5, none⟩) hql).trans HK0.out⟩)
      obtain ⟨z0, z1⟩ := HK8.out wr (Below.refl _ _)
      clear hps hsu hcs k0 f0 v0 hu
      go_wp2_with fail
      refine wp_region_z (fun w' => w'.cell? ⟨w.heap.size, 5, none⟩ = some (.slice (some ⟨q, 0, none⟩) m.lp.length c5) ∧ w'.cell? ⟨q, k * 6 + 5, none⟩ = some (.slice PA ps.length pc)) 12 (by kernel_rfl) (HK8.out _ (Below.refl _ _).drew) (fun hH0 => ?_)
      refine wpZ_take 0 14 (u := ?_) rfl (by kernel_rfl) (fun _ _ _ h => h) ⟨by rfl, ?_⟩ hH0 ?_
      rotate_left
      · intro w hSw; (try dsimp only at hSw); go_simp; (first | done | with_reducible rfl)
      try simp only [Act.put, sb1, sb2, sb3]
      refine wpZ_take 1 14 (u := ?_) rfl (by kernel_rfl) (fun _ _ _ h => h) ⟨by rfl, ?_⟩ hH0 ?_
      rotate_left
      · intro w hSw; (try dsimp only at hSw); go_simp; (first | done | with_reducible rfl)
      try simp only [Act.put, sb1, sb2, sb3]
      refine wpZ_take 2 14 (u := ?_) rfl (by kernel_rfl) (fun _ _ _ h => h) ⟨by rfl, ?_⟩ hH0 ?_
      rotate_left
      · intro w hSw; (try dsimp only at hSw); go_simp; (first | done | with_reducible rfl)
      try simp only [Act.put, sb1, sb2, sb3]
      refine wpZ_take 3 14 (u := ?_) rfl (by kernel_rfl) (fun _ _ _ h => h) ⟨by rfl, ?_⟩ hH0 ?_
      rotate_left
      · intro w hSw; (try dsimp only at hSw); go_simp; (first | done | with_reducible rfl)
      try simp only [Act.put, sb1, sb2, sb3]
      refine wpZ_take 4 14 (u := ?_) rfl (by kernel_rfl) (fun _ _ _ h => h) ⟨by rfl, ?_⟩ hH0 ?_
      rotate_left
      · intro w hSw; (try dsimp only at hSw); go_simp; (first | done | with_reducible rfl)
      try simp only [Act.put, sb1, sb2, sb3]
      refine wpZ_take 5 14 (u := ?_) rfl (by kernel_rfl) (fun _ _ _ h => h) ⟨by rfl, ?_⟩ hH0 ?_
      rotate_left
      · intro w hSw; (try dsimp only at hSw); go_simp; (first | done | with_reducible rfl)
      try simp only [Act.put, sb1, sb2, sb3]
      refine wpZ_take 6 14 (u := ?_) rfl (by kernel_rfl) (fun _ _ _ h => h) ⟨by rfl, ?_⟩ hH0 ?_
      rotate_left
      · intro w hSw; (try dsimp only at hSw); go_simp; (first | done | with_reducible rfl)
      try simp only [Act.put, sb1, sb2, sb3]
      refine wpZ_take 7 14 (u := ?_) rfl (by kernel_rfl) (fun _ _ _ h => h) ⟨by rfl, ?_⟩ hH0 ?_
      rotate_left
      · intro w hSw; (try dsimp only at hSw); go_simp; (first | done | with_reducible rfl)
      try simp only [Act.put, sb1, sb2, sb3]
      refine wpZ_take 8 14 (u := ?_) rfl (by kernel_rfl) (fun _ _ _ h => h) ⟨by rfl, ?_⟩ hH0 ?_
      rotate_left
      · intro w hSw; (try dsimp only at hSw); go_simp; (first | done | with_reducible rfl)
      try simp only [Act.put, sb1, sb2, sb3]
      refine wpZ_only 9 rfl (by kernel_rfl) (by rfl) (fun K hK => ?_)
      go_simp
      go_at_call 42
      refine (cloneInts_any _ ps B _ (HSU.out.below (HBW.out.trans ((Below.refl wr.heap.size wr).drew.mono HBW.out.size)) hB) (show B ≤ wr.heap.size by omega) (by omega)).mono ?_
      rintro e w6 ⟨r6, rfl, ho6, hq6⟩
      obtain ⟨A6, c6, rfl, -⟩ := id (ho6.sl (Nat.le_refl _))
      have b6 : Below wr.heap.size wr w6 := Below.trans (Below.refl _ _).drew (hq6.mono (Nat.le_refl _))
      go_wp2_with fail
      refine hK.out _ _ ?_ (fun hH1 => ?_)
      · exact HK8.out _ b6
      clear hK K hH0
      try simp only [Act.put, sb1, sb2, sb3]
      refine wpZ_take 10 14 (u := ?_) rfl (by kernel_rfl) (fun _ _ _ h => h) ⟨by rfl, ?_⟩ hH1 ?_
      rotate_left
      · intro w hSw; (try dsimp only at hSw); go_simp; (first | done | with_reducible rfl)
      try simp only [Act.put, sb1, sb2, sb3]
      refine wpZ_take 11 14 (u := ?_) rfl (by kernel_rfl) (fun _ _ _ h => h) ⟨by rfl, ?_⟩ hH1 ?_
      rotate_left
      · intro w hSw; (try dsimp only at hSw); go_simp; (first | done | with_reducible rfl)
      try simp only [Act.put, sb1, sb2, sb3]
      refine wpZ_last rfl (by kernel_rfl) (by kernel_rfl) (by rfl) (fun K hK => ?_)
      have hx6 : OwC 47 6 w6 (Iv w4.heap.size wr.heap.size) (.slice (some ⟨q, 0, none⟩) m.lp.length c5) m.lp.length cs := HXC.out.keep fun j qq => b6.block j qq.2
      obtain ⟨g', cap', x', e1, -, -, hcell, hfro, hown, -⟩ := hx6.setS (k * 6 + 5) (by rw [HMX.out.1]; omega) (show Ow w6 wr.heap.size w6.heap.size (.slice A6 ps.length c6) ps from ho6) b6.size
      simp only [Value.slice.injEq, Option.some.injEq, Addr.mk.injEq] at e1
      obtain ⟨⟨rfl, -, -⟩, -, -⟩ := e1
      go_simp
      refine hK.out _ _ ?_
      clear hK K hH1
      have HB7 := Lib.hid (setB (p := ⟨q, k * 6 + 5, none⟩) (x := .slice A6 ps.length c6) sq.1 (HBL.out.trans (b6.mono (by omega))))
      have HOWN := Lib.hid hown
      clear hown hcell hfro hx6 b6 hq6 ho6 z0 z1
      go_wp2_with fail
      generalize w6.setCell ⟨q, k * 6 + 5, none⟩ (.slice A6 ps.length c6) = w7 at *
      go_roundw
      case rel => exact ⟨k + 1, _, by omega, by go_num, by rw [HPS.out] at HOWN; exact MixC.step HMX.out hlt HV.out.2.1 HV.out.2.2.2, by have := HOWN.out; rw [HPS.out] at this; exact this, HB7.out⟩
      case measure => simp [intOf]; omega
    · obtain rfl : k = m.lp.length := by omega
      have hci := HMX.out.all
      have HINF := Lib.hid (show OwC 47 6 wr (fun j => w4.heap.size ≤ j ∧ j < wr.heap.size) (.slice A5 m.lp.length c5) m.lp.length (infC m.lp) from by rw [← hci]; exact HXC.out)
      have hrx := (HBL.out.block (w.heap.size + 1) (by omega)).trans HR5.out
      have HRX := Lib.hid hrx
      clear hci hrx HMX HXC
      obtain ⟨⟨x0, x1, x2, x3, x4, x5, x6⟩, xf, -⟩ := box7 HPX.out
      clear xf
      go_wp2_with fail
      refine (cloneInts_any _ m.dr B wr (HM.out.below HBW.out hB).dr (by have := HBW.out.size; omega) (by omega)).mono ?_
      rintro e v7 ⟨r6, rfl, ho6, hq6⟩
      obtain ⟨A6, c6, rfl, -⟩ := id (ho6.sl (Nat.le_refl _))
      have hzq := hq6.size
      have hx := (hq6.block w.heap.size (by omega)).trans HPX.out
      obtain ⟨⟨y0, y1, y2, y3, y4, y5, y6⟩, yf, -⟩ := box7 hx
      have yf6 := yf 6
      have hx7 : (v7.setCell ⟨w.heap.size, 6, none⟩ (.slice A6 m.dr.length c6)).heap[w.heap.size]? = _ := heap_setCell_at (k := 6) (.slice A6 m.dr.length c6) hx
      have hrv := (hq6.block (w.heap.size + 1) (by omega)).trans HRX.out
      have hr7 : (v7.setCell ⟨w.heap.size, 6, none⟩ (.slice A6 m.dr.length c6)).heap[w.heap.size + 1]? = some (.cells #[.int .i64 0, .int .i64 0, .slice none 0 0, .slice none 0 0, .slice none 0 0, .slice none 0 0, .slice none 0 0] 31) := (Below.heap_setCell _ _ _ _ (by simp)).trans hrv
      have hb7 : Below w.heap.size w (v7.setCell ⟨w.heap.size, 6, none⟩ (.slice A6 m.dr.length c6)) := setB (Nat.le_refl _) (HBW.out.trans (hq6.mono HBW.out.size))
      have hs7 : (v7.setCell ⟨w.heap.size, 6, none⟩ (.slice A6 m.dr.length c6)).heap.size = v7.heap.size := by simp [World.setCell]
      have kl : ∀ k, w.heap.size + 2 ≤ k → k < wr.heap.size → (v7.setCell ⟨w.heap.size, 6, none⟩ (.slice A6 m.dr.length c6)).heap[k]? = wr.heap[k]? := fun k k1 k2 => (Below.heap_setCell _ _ _ _ (by simp only; omega)).trans (hq6.block k k2)
      have k4 : ∀ k, w.heap.size + 2 ≤ k → k < w4.heap.size → (v7.setCell ⟨w.heap.size, 6, none⟩ (.slice A6 m.dr.length c6)).heap[k]? = w4.heap[k]? := fun k k1 k2 => (kl k k1 (by omega)).trans ((HBL.out.block k k2).trans (HK5.out k k1 k2))
      have k3 : ∀ k, w.heap.size + 2 ≤ k → k < w3.heap.size → (v7.setCell ⟨w.heap.size, 6, none⟩ (.slice A6 m.dr.length c6)).heap[k]? = w3.heap[k]? := fun k k1 k2 => (k4 k k1 (by omega)).trans (HK4.out k k1 k2)
      have k2 : ∀ k, w.heap.size + 2 ≤ k → k < w2.heap.size → (v7.setCell ⟨w.heap.size, 6, none⟩ (.slice A6 m.dr.length c6)).heap[k]? = w2.heap[k]? := fun k k1 k2 => (k3 k k1 (by omega)).trans (HK3.out k k1 k2)
      have hown : OwM (v7.setCell ⟨w.heap.size, 6, none⟩ (.slice A6 m.dr.length c6)) (fun j => w1.heap.size ≤ j ∧ j < v7.heap.size) (.slice A2 m.fr.length c2) (.slice A3 m.bk.length c3) (.slice A4 m.cr.length c4) (.slice A5 m.lp.length c5) (.slice A6 m.dr.length c6) m := OwM.of5 (HI2.out.keep fun j q => k2 j (by omega) q.2) (HI3.out.keep fun j q => k3 j (by omega) q.2) (HI4.out.keep fun j q => k4 j (by omega) q.2) (HINF.out.keep fun j q => kl j (by omega) q.2) (rw_keep (rw_of_ow ho6) fun j q => Below.heap_setCell _ _ _ _ (by simp only; omega)) (by omega) (by omega) (by omega) (by omega) (by omega)
      obtain ⟨e1, e2, e3, e4⟩ := box7_set (.int .i64 m.wd) (.int .i64 m.rk) (.slice A2 m.fr.length c2) (.slice A3 m.bk.length c3) (.slice A4 m.cr.length c4) (.slice A5 m.lp.length c5) (.slice A6 m.dr.length c6) hr7
      obtain ⟨⟨v0, v1, v2, v3, v4, v5, v6⟩, tf, -⟩ := box7 hrv
      have tf0 := tf 0
      have tf1 := tf 1
      have tf2 := tf 2
      have tf3 := tf 3
      have tf4 := tf 4
      have tf5 := tf 5
      have tf6 := tf 6
      have HN := Lib.hid (box7 e1).1
      have HO := Lib.hid (hown.keep fun j q => e2 j (by omega))
      have HE := Lib.hid (e3.trans hs7)
      have HZ := Lib.hid (hb7.trans (e4 w.heap.size (by omega)))
      have hz7 := hs7
      clear hx yf hx7 hrv hr7 hb7 hs7 kl k4 k3 k2 hown e1 e2 e3 e4 tf ho6 hq6 x0 x1 x2 x3 x4 x5 x6 hz7
      go_wp2_with fail
      obtain ⟨n0, n1, n2, n3, n4, n5, n6⟩ := HN.out
      refine bodyPost_ret (v := .agg #[.int .i64 m.wd, .int .i64 m.rk, .slice A2 m.fr.length c2, .slice A3 m.bk.length c3, .slice A4 m.cr.length c4, .slice A5 m.lp.length c5, .slice A6 m.dr.length c6]) (by simp [results, Tryz.results17, go_sem, n0, n1, n2, n3, n4, n5, n6]) rfl ?_
      exact ⟨_, _, _, _, _, rfl, HO.out.mono fun j q => ⟨by omega, by rw [HE.out]; exact q.2⟩, HZ.out⟩
end Go.Proofs.YtgmppfhokfifgaaGreat
