/-
  Contract: the program's areApart (each loop's number occurs once, on needles and dropped).
-/
import Derived.Test.YtgmppfhokfifgaaGreatGpo
import Derived.Deep.RegionHeld3
import Derived.Test.YtgmppfhokfifgaaGreatSlib
import Derived.IntWalk
import Derived.StillTailTactics
import Derived.Test.YtgmppfhokfifgaaGreatOkd
namespace Go.Proofs.YtgmppfhokfifgaaGreat
set_option maxRecDepth 10000
open Go.RowKit
/-- A row of Booleans of the call's own. -/
def OwB (w : World) (lo hi : Nat) (v : Value) (bs : List Bool) : Prop := OwR 4 1 w lo hi v bs.length (bs.map Value.bool)
theorem bool_info : (Tryz.prog.info? 4).map (fun i => (i.zero, i.size, i.bytes)) = some (some (.bool false), 1, 1) := by kernel_rfl
def gb (bs : List Bool) (k : Nat) : Bool := bs.getD k false
theorem OwB.set_ {w : World} {lo hi : Nat} {v : Value} {bs : List Bool} (h : OwB w lo hi v bs) (k : Nat) (hk : k < bs.length) (x : Bool) :
    ∃ g cap, v = .slice (some ⟨g, 0, none⟩) bs.length cap ∧ lo ≤ g ∧ g < hi ∧ w.cell? ⟨g, k, none⟩ = some (.bool (gb bs k)) ∧ w.frozen? ⟨g, k, none⟩ = false ∧
      OwB (w.setCell ⟨g, k, none⟩ (.bool x)) lo hi v (bs.set k x) ∧ Chg lo hi w (w.setCell ⟨g, k, none⟩ (.bool x)) := by
  obtain ⟨h1, h2⟩ := h
  rcases h1.2 with ⟨rfl, h0⟩ | ⟨g, cap, cur, rfl, hlo, hh, r⟩
  · omega
  · have hg := h2 g rfl
    have hs := h1.stored k (.bool x)
    refine ⟨g, cap, rfl, hlo, hg, ?_, h1.frozenAt k, ⟨?_, h2⟩, ⟨rfl, rfl, rfl, by simp [World.setCell], fun j _ hj2 => Below.heap_setCell _ _ _ _ (by simp only; omega)⟩⟩
    · rw [h1.cellAt k (by omega)]
      simp [gb, List.getD, hk]
    · unfold OwB at *
      rw [List.length_set, List.map_set]
      exact hs.1
/-- The numbers that have been seen. -/
def seenB (n : Nat) (P : List Int) : List Bool := (List.range n).map fun (k : Nat) => hasI P k
theorem seenB_len (n : Nat) (P : List Int) : (seenB n P).length = n := by simp [seenB]
theorem seenB_get {n : Nat} {P : List Int} {x : Nat} (h : x < n) : gb (seenB n P) x = hasI P x := by simp [gb, seenB, List.getD, h]
theorem seenB_nil (n : Nat) : seenB n [] = List.replicate n false := by
  apply List.ext_getElem <;> simp [seenB, hasI]
theorem seenB_set {n : Nat} {P : List Int} {x : Nat} : (seenB n P).set x true = seenB n (P ++ [(x : Int)]) := by
  apply List.ext_getElem
  · simp [seenB]
  · intro i h1 h2
    rw [List.getElem_set]
    simp only [seenB, List.getElem_map, List.getElem_range, hasI, List.any_append, List.any_cons, List.any_nil, Bool.or_false]
    split
    · rename_i e; subst e; simp
    · rename_i e
      have : ((x : Int) == (i : Int)) = false := by simp; omega
      rw [this, Bool.or_false]
/-- What has been seen is well so far. -/
def goodP (n : Nat) (P : List Int) : Prop := (∀ x ∈ P, 0 ≤ x ∧ x < (n : Int)) ∧ P.Nodup
theorem goodP_nil (n : Nat) : goodP n [] := ⟨by simp, by simp⟩
theorem goodP_snoc {n : Nat} {P : List Int} {x : Int} (h : goodP n P) (h1 : inR x 0 ((n : Int) - 1) = true) (h2 : hasI P x = false) : goodP n (P ++ [x]) := by
  have hx : x ∉ P := fun hm => by rw [hasI_mem.2 hm] at h2; cases h2
  refine ⟨fun y hy => ?_, ?_⟩
  · rw [List.mem_append] at hy
    rcases hy with hy | hy
    · exact h.1 y hy
    · simp at hy; subst hy; have := inR_iff.1 h1; omega
  · rw [nodup_cnt]
    intro y
    have := nodup_cnt.1 h.2 y
    rw [List.count_append]
    by_cases e : y = x
    · subst e; rw [List.count_eq_zero.2 hx]; simp
    · rw [List.count_eq_zero.2 (fun hm : y ∈ [x] => e (by simpa using hm))]; omega
theorem goodP_pars {n : Nat} {P : List Int} (h : goodP n P) : parsB n P = true := parsB_iff.2 h
theorem pars_out {n : Nat} {P : List Int} {x : Int} (hm : x ∈ P) (h : inR x 0 ((n : Int) - 1) = false) : parsB n P = false := by
  rw [← Bool.not_eq_true]; intro e
  have := (parsB_iff.1 e).1 x hm
  rw [inR_yes (by omega) (by omega)] at h; cases h
theorem pars_twice {n : Nat} {P R Q : List Int} {x : Int} (e : Q = P ++ x :: R) (h : hasI P x = true) : parsB n Q = false := by
  rw [← Bool.not_eq_true]; intro h2
  have := nodup_cnt.1 (parsB_iff.1 h2).2 x
  rw [e, List.count_append, List.count_cons_self] at this
  have := List.count_pos_iff.2 (hasI_mem.1 h)
  omega
theorem flat_at {R : List (List Int)} {i j : Nat} (hi : i < R.length) (hj : j < (gl R i).length) :
    R.flatten = ((R.take i).flatten ++ (gl R i).take j) ++ gi (gl R i) j :: ((gl R i).drop (j + 1) ++ (R.drop (i + 1)).flatten) := by
  conv => lhs; rw [← List.take_append_drop i R]
  rw [List.flatten_append, List.drop_eq_getElem_cons hi, ← gl_eq hi, List.flatten_cons]
  conv => lhs; rw [← List.take_append_drop j (gl R i), List.drop_eq_getElem_cons hj, ← gi_eq hj]
  simp [List.append_assoc]
theorem flat_step {R : List (List Int)} {i : Nat} (hi : i < R.length) : (R.take (i + 1)).flatten = (R.take i).flatten ++ gl R i := by
  rw [List.take_succ_eq_append_getElem hi, List.flatten_append, gl_eq hi]; simp
theorem rowsM_flat (m : Mac) : ([m.fr, m.bk, [m.dr]] : List (List (List Int))).flatten.flatten = allM m := by simp [allM]
/-- All cells but those of block s are as they were. -/
def SameBut (s : Nat) (w w' : World) : Prop := ∀ p : Addr, p.block ≠ s → w'.cell? p = w.cell? p
theorem SameBut.refl (s : Nat) (w : World) : SameBut s w w := fun _ _ => rfl
theorem SameBut.set {s : Nat} {w w' : World} (h : SameBut s w w') (k : Nat) (x : Value) : SameBut s w (w'.setCell ⟨s, k, none⟩ x) := fun p hp => by
  rw [← h p hp]
  simp only [World.cell?, Below.heap_setCell w' ⟨s, k, none⟩ x p.block hp]
/-- Block s holds Booleans alone. -/
def Bools (s : Nat) (w : World) : Prop := ∀ o u, w.cell? ⟨s, o, none⟩ = some u → ∃ x, u = .bool x
theorem OwB.bools {w : World} {lo hi s n : Nat} {bs : List Bool} (h : OwB w lo hi (.slice (some ⟨s, 0, none⟩) n n) bs) : Bools s w := by
  obtain ⟨h1, -⟩ := h
  intro o u hu
  rcases h1.2 with ⟨h, -⟩ | ⟨g, cap, cur, e, hlo, hh, hn, hcap, hsz, htake⟩
  · cases h
  · simp only [Value.slice.injEq, Option.some.injEq, Addr.mk.injEq] at e
    obtain ⟨⟨rfl, -, -⟩, e2, rfl⟩ := e
    rw [cell_of_row w s o cur _ (0, 0) hh] at hu
    have ho : o < cur.size := by
      rcases Nat.lt_or_ge o cur.size with q | q
      · exact q
      · rw [Array.getElem?_eq_none q] at hu; cases hu
    have : cur.toList[o]? = some u := by simpa using hu
    have h3 : (cur.toList.take (bs.length * 1))[o]? = some u := by rw [List.getElem?_take, if_pos (by omega)]; exact this
    rw [htake] at h3
    rw [List.getElem?_map] at h3
    cases hb : bs[o]? with
    | none => rw [hb] at h3; cases h3
    | some x => rw [hb] at h3; simp at h3; exact ⟨x, h3.symm⟩
theorem Sl.apart {s : Nat} {w w' : World} {B : Nat} {v : Value} {xs : List Int} (h : Sl w B v xs) (hs : Bools s w) (hk : SameBut s w w') : Sl w' B v xs := by
  obtain ⟨A, c, h1, h2, h3, h4, h5⟩ := h
  refine ⟨A, c, h1, h2, h3, h4, fun hp => ?_⟩
  obtain ⟨b, off, e, hb, hc⟩ := h5 hp
  refine ⟨b, off, e, hb, fun k hk' => ?_⟩
  have := hc k hk'
  rw [hk _ (fun q : b = s => by subst q; obtain ⟨x, hx⟩ := hs _ _ this; cases hx)]
  exact this
theorem SlS.apart {s : Nat} {w w' : World} {B : Nat} {v : Value} {xss : List (List Int)} (h : SlS w B v xss) (hs : Bools s w) (hk : SameBut s w w') : SlS w' B v xss := by
  obtain ⟨A, c, h1, h2, h3, h4, h5⟩ := h
  refine ⟨A, c, h1, h2, h3, h4, fun hp => ?_⟩
  obtain ⟨b, off, e, hb, hc⟩ := h5 hp
  refine ⟨b, off, e, hb, fun k hk' => ?_⟩
  obtain ⟨u, hu, hS⟩ := hc k hk'
  refine ⟨u, ?_, hS.apart hs hk⟩
  rw [hk _ (fun q : b = s => by subst q; obtain ⟨x, hx⟩ := hs _ _ hu; subst hx; obtain ⟨A, c, e, -⟩ := hS; cases e)]
  exact hu
/-- slices.Concat of the beds and the dropped, at a world where its row has been laid. -/
theorem concat3_any {fv bv dv : Value} {fr bk : List (List Int)} {dr : List Int} {B g0 g1 : Nat} {t0 t1 : TypeId} {w W : World} (hf : SlS w B fv fr) (hb : SlS w B bv bk) (hd : Sl w B dv dr) (hB : B ≤ w.heap.size) (hW : Below w.heap.size w W)
    (h0 : W.heap[g0]? = some (.cells #[dv] t0)) (h1 : W.heap[g1]? = some (.cells #[fv, bv, .slice (some ⟨g0, 0, none⟩) 1 1] t1)) (hsz : fr.length + bk.length ≤ 100000) :
    Calls Tryz.prog 25 #[.slice (some ⟨g1, 0, none⟩) 3 3] W fun e w' => ∃ r, e = .returned r ∧ SlS w' w'.heap.size r (fr ++ bk ++ [dr]) ∧ Below w.heap.size w w' := by
  have l0 := heap_lt h0
  have l1 := heap_lt h1
  have hz := hW.size
  have hs0 : SlS W W.heap.size (.slice (some ⟨g0, 0, none⟩) 1 1) [dr] := by
    refine ⟨_, 1, rfl, by simp, by simp [maxLen], by simp, fun _ => ⟨g0, 0, rfl, l0, fun k hk => ?_⟩⟩
    obtain rfl : k = 0 := by simpa using hk
    exact ⟨dv, cell_of_row W g0 0 _ t0 (0, 0) h0, by rw [show gl [dr] 0 = dr from rfl]; exact (hd.below hW hB).mono (by omega)⟩
  refine (concatSS_any g1 [fv, bv, .slice (some ⟨g0, 0, none⟩) 1 1] [fr, bk, [dr]] W.heap.size W (Nat.le_refl _) l1 rfl (by simp) (by simp; omega) ?_).mono ?_
  · intro k u hu
    match k, hu with
    | 0, hu => simp at hu; subst hu; exact ⟨cell_of_row W g1 0 _ t1 (0, 0) h1, (hf.below hW hB).mono (by omega)⟩
    | 1, hu => simp at hu; subst hu; exact ⟨cell_of_row W g1 1 _ t1 (0, 0) h1, (hb.below hW hB).mono (by omega)⟩
    | 2, hu => simp at hu; subst hu; exact ⟨cell_of_row W g1 2 _ t1 (0, 0) h1, hs0⟩
  · rintro e w' ⟨r, rfl, hs, hb'⟩
    refine ⟨r, rfl, by simpa using hs, hW.trans (hb'.mono hz)⟩
theorem concatFB_any {fv bv : Value} {fr bk : List (List Int)} {B g1 : Nat} {t1 : TypeId} {w W : World} (hf : SlS w B fv fr) (hb : SlS w B bv bk) (hB : B ≤ w.heap.size) (hW : Below w.heap.size w W)
    (h1 : W.heap[g1]? = some (.cells #[fv, bv] t1)) (hsz : fr.length + bk.length ≤ 100000) :
    Calls Tryz.prog 25 #[.slice (some ⟨g1, 0, none⟩) 2 2] W fun e w' => ∃ r, e = .returned r ∧ SlS w' w'.heap.size r (fr ++ bk) ∧ Below w.heap.size w w' := by
  have l1 := heap_lt h1
  have hz := hW.size
  refine (concatSS_any g1 [fv, bv] [fr, bk] W.heap.size W (Nat.le_refl _) l1 rfl (by simp) (by simp; omega) ?_).mono ?_
  · intro k u hu
    match k, hu with
    | 0, hu => simp at hu; subst hu; exact ⟨cell_of_row W g1 0 _ t1 (0, 0) h1, (hf.below hW hB).mono (by omega)⟩
    | 1, hu => simp at hu; subst hu; exact ⟨cell_of_row W g1 1 _ t1 (0, 0) h1, (hb.below hW hB).mono (by omega)⟩
  · rintro e w' ⟨r, rfl, hs, hb'⟩
    refine ⟨r, rfl, by simpa using hs, hW.trans (hb'.mono hz)⟩
theorem concat3_at {fv bv dv : Value} {fr bk : List (List Int)} {dr : List Int} {B : Nat} {t0 t1 : TypeId} {w : World} (hf : SlS w B fv fr) (hb : SlS w B bv bk) (hd : Sl w B dv dr) (hB : B ≤ w.heap.size) (hsz : fr.length + bk.length ≤ 100000) :
    Calls Tryz.prog 25 #[.slice (some ⟨w.heap.size + 1, 0, none⟩) 3 3] ((w.alloc (.cells #[dv] t0)).alloc (.cells #[fv, bv, .slice (some ⟨w.heap.size, 0, none⟩) 1 1] t1)).drew fun e w' => ∃ r, e = .returned r ∧ SlS w' w'.heap.size r (fr ++ bk ++ [dr]) ∧ Below w.heap.size w w' := by
  have e1 : (w.alloc (.cells #[dv] t0)).heap.size = w.heap.size + 1 := World.size_alloc _ _
  refine concat3_any (g0 := w.heap.size) (g1 := w.heap.size + 1) (t0 := t0) (t1 := t1) hf hb hd hB (al2 w _ _).drew ?_ ?_ hsz
  · exact (Below.heap_alloc _ _ _ (by omega)).trans (alloc_at_ w _)
  · have := alloc_at_ (w.alloc (.cells #[dv] t0)) (.cells #[fv, bv, .slice (some ⟨w.heap.size, 0, none⟩) 1 1] t1)
    rw [e1] at this
    exact this
set_option maxRecDepth 100000 in
set_option maxHeartbeats 6400000 in
theorem areApart_any {f b c l d : Value} {m : Mac} {B g : Nat} {w : World} (h : SlM w B f b c l d m) (hB : B ≤ w.heap.size) (hx : w.heap[g]? = some (.cells #[.int .i64 m.wd, .int .i64 m.rk, f, b, c, l, d] 31)) (hsz : m.fr.length + m.bk.length ≤ 100000) (hlp : m.lp.length ≤ 300) :
    Calls Tryz.prog 27 #[.pointer (some ⟨g, 0, none⟩)] w fun e w' => e = .returned (.bool (parsB m.lp.length (allM m))) ∧ Below w.heap.size w w' := by
  obtain ⟨Af, kf, rfl, hlf, hmf, -⟩ := id h.fr
  obtain ⟨Ab, kb, rfl, hlb, hmb, -⟩ := id h.bk
  obtain ⟨Al, kl, rfl, hll, hml, -⟩ := id h.lp.cells
  obtain ⟨Ad, kd, rfl, hld, hmd, -⟩ := id h.dr
  unfold maxLen at hmf hmb hmd
  have hgl := heap_lt hx
  have H := Lib.hid h
  have X := Lib.hid hx
  obtain ⟨i0, hi, hz0, hz1, hz2⟩ := info_parts bool_info
  have HI := Lib.hid hi
  have HZ := Lib.hid hz0
  have HALL := Lib.hid (rowsM_flat m)
  generalize hn : m.lp.length = n at *
  have HN := Lib.hid hn
  obtain ⟨⟨p0, p1, p2, p3, p4, p5, p6⟩, -, -⟩ := box7 X.out
  clear hx h hi hz0 hn p0 p1 p4
  go_enter Tryz.func27, Tryz.ntmps27
  go_wp2_with (at_make; refine wpList_make_full _ rfl _ _ 45 rfl w.heap.size 4 i0 (.bool false) 1 Tryz.underlying45 HI.out HZ.out hz1 _ _ _ _ n rfl rfl rfl rfl (by rw [hz2]; omega) (by unfold maxLen; omega) (Nat.le_refl _) ?_)
  intro w2 hown hg2
  have hO : OwB w2 w.heap.size w2.heap.size (.slice (some ⟨w.heap.size, 0, none⟩) n n) (seenB n []) := by
    unfold OwB
    rw [seenB_len, seenB_nil, List.map_replicate]
    rw [toList_madeCells_one] at hown
    exact OwR.of_own hown
  have hb2 : Below w.heap.size w w2 := (Below.refl w.heap.size w).grown hg2 (Nat.le_refl _) (by simp)
  have hz2' : w.heap.size < w2.heap.size := (hown.lt _ rfl).2
  have HO := Lib.hid hO
  have HB2 := Lib.hid hb2
  clear hown hg2 hO hb2 p2 p3 p5 p6
  obtain ⟨⟨p0, p1, p2, p3, p4, p5, p6⟩, -, -⟩ := box7 (keep_fwd HB2.out X.out)
  have H2 := Lib.hid (H.out.below HB2.out hB)
  have hBz : B ≤ w2.heap.size := by omega
  have HK := Lib.hid (fun w' (hw : Below w2.heap.size w2 w') => show (w'.cell? ⟨g, 2, none⟩ = some (.slice Af m.fr.length kf) ∧ w'.cell? ⟨g, 3, none⟩ = some (.slice Ab m.bk.length kb) ∧ w'.cell? ⟨g, 6, none⟩ = some (.slice Ad m.dr.length kd)) ∧ Below w2.heap.size w2 w' from
    ⟨⟨by rw [hw.cell (by simp only; omega)]; exact p2, by rw [hw.cell (by simp only; omega)]; exact p3, by rw [hw.cell (by simp only; omega)]; exact p6⟩, hw⟩)
  clear p0 p1 p4
  go_wp2_with fail
  go_region_held3 (fun w' => (w'.cell? ⟨g, 2, none⟩ = some (.slice Af m.fr.length kf) ∧ w'.cell? ⟨g, 3, none⟩ = some (.slice Ab m.bk.length kb) ∧ w'.cell? ⟨g, 6, none⟩ = some (.slice Ad m.dr.length kd)) ∧ Below w2.heap.size w2 w') (exact HK.out _ (by first | assumption | go_grown))
    ((go_at_call 25; (refine (concat3_at (B := B) H2.out.fr H2.out.bk H2.out.dr hBz hsz).mono ?_); rintro e w3 ⟨r3, rfl, hs3, hb3⟩; (generalize hR : m.fr ++ m.bk ++ [m.dr] = R at *); obtain ⟨A3, c3, rfl, hl3, hm3, -⟩ := id hs3; have hz3 := hb3.size; have HR := Lib.hid hR; clear hR; have HB3 := Lib.hid hb3; have HS3 := Lib.hid hs3; clear hb3 hs3))
  have HF : Hid (R.flatten = allM m) := Lib.hid (by rw [← HR.out]; simp [allM])
  unfold maxLen at hm3
  have HO3 := Lib.hid (show OwB w3 w.heap.size w2.heap.size (.slice (some ⟨w.heap.size, 0, none⟩) n n) (seenB n []) from OwR.below HO.out HB3.out (Nat.le_refl _))
  have HBO := Lib.hid (OwB.bools HO3.out)
  have hb3 := HB2.out.trans (HB3.out.mono (Nat.le_of_lt hz2'))
  have hg0 := goodP_nil n
  have hsb := SameBut.refl w.heap.size w3
  have hO3 := HO3.out
  clear HK H2 p2 p3 p5 p6
  go_wp2_with fail
  go_loopw [30] (fun i wr => ∃ k : Nat, k ≤ R.length ∧ i = .int .i64 k ∧ goodP n (R.take k).flatten ∧ OwB wr w.heap.size w2.heap.size (.slice (some ⟨w.heap.size, 0, none⟩) n n) (seenB n (R.take k).flatten) ∧ SameBut w.heap.size w3 wr ∧ Below w.heap.size w wr) (fun i _ => R.length - (intOf i).toNat)
  case atStart => exact ⟨0, Nat.zero_le _, rfl, by simpa using hg0, by simpa using hO3, hsb, hb3⟩
  case round =>
    obtain ⟨k, hk, rfl, hgood, hO, hsm, hb⟩ := hrel
    clear hg0 hO3 hsb hb3
    obtain ⟨w4, hw4⟩ : ∃ x, x = wr := ⟨_, rfl⟩
    subst hw4
    have HG := Lib.hid hgood
    have HO := Lib.hid hO
    have HSM := Lib.hid hsm
    have HB := Lib.hid hb
    clear hgood hO hsm hb
    by_cases hlt : k < R.length
    · obtain ⟨A9, c9, e9, -, -, -, hcell⟩ := HS3.out.apart HBO.out HSM.out
      simp only [Value.slice.injEq] at e9
      obtain ⟨rfl, -, rfl⟩ := e9
      obtain ⟨b1, off, rfl, hbB, hcc⟩ := hcell (by omega)
      obtain ⟨u, p0, s0⟩ := hcc k hlt
      obtain ⟨Au, cu, rfl, hul, hum, -⟩ := id s0
      unfold maxLen at hum
      have HS0 := Lib.hid s0
      have HBO4 := Lib.hid (HO.out.bools)
      have HST := Lib.hid (flat_step hlt)
      have HAT := Lib.hid (fun j (hj : j < (gl R k).length) => flat_at hlt hj)
      clear hcell hcc s0
      generalize gl R k = cur at *
      generalize (R.take k).flatten = P at *
      have h0 : goodP n (P ++ cur.take 0) ∧ OwB w4 w.heap.size w2.heap.size (.slice (some ⟨w.heap.size, 0, none⟩) n n) (seenB n (P ++ cur.take 0)) := by simpa using ⟨HG.out, HO.out⟩
      have hb0 := HB.out
      have hs0 := SameBut.refl w.heap.size w4
      go_wp2_with fail
      go_loopw [36] (fun i wr => ∃ j : Nat, j ≤ cur.length ∧ i = .int .i64 j ∧ (goodP n (P ++ cur.take j) ∧ OwB wr w.heap.size w2.heap.size (.slice (some ⟨w.heap.size, 0, none⟩) n n) (seenB n (P ++ cur.take j))) ∧ SameBut w.heap.size w4 wr ∧ Below w.heap.size w wr) (fun i _ => cur.length - (intOf i).toNat)
      case atStart => exact ⟨0, Nat.zero_le _, rfl, h0, hs0, hb0⟩
      case round =>
        obtain ⟨j, hj, rfl, ⟨hgood, hO⟩, hsm, hb⟩ := hrel
        have HG2 := Lib.hid hgood
        have HO2 := Lib.hid hO
        have HSM2 := Lib.hid hsm
        have HB4 := Lib.hid hb
        clear hgood hO hsm hb h0 hb0 hs0 p0
        by_cases hlj : j < cur.length
        · obtain ⟨A9, c9, e9, -, -, -, hcell⟩ := HS0.out.apart HBO4.out HSM2.out
          simp only [Value.slice.injEq] at e9
          obtain ⟨rfl, -, rfl⟩ := e9
          obtain ⟨b2, off2, rfl, hbB2, hcc⟩ := hcell (by omega)
          have r1 := hcc j hlj
          clear hcell hcc
          have HA := Lib.hid (HAT.out j hlj)
          have HT1 := Lib.hid (take_gi hlj)
          have hmem : Hid (gi cur j ∈ allM m) := Lib.hid (by rw [← HF.out, HA.out]; simp)
          generalize gi cur j = x at *
          generalize hP2 : P ++ cur.take j = P2 at *
          have HP2 := Lib.hid hP2
          clear hP2
          obtain ⟨⟨-, -, -, -, -, p5, -⟩, -, -⟩ := box7 (keep_fwd HB4.out X.out)
          cases hi : inR x 0 ((n : Int) - 1)
          · have HT := Lib.hid (pars_out hmem.out hi)
            go_wp2_with (go_at_call 14; refine (is_same hi (within_any _ _ _ _)).mono ?_; rintro e w' ⟨rfl, rfl⟩)
            go_ret
            exact ⟨ret_bool HT.out.symm, HB4.out⟩
          · obtain ⟨x0, x1⟩ := inR_iff.1 hi
            obtain ⟨y, rfl⟩ : ∃ y : Nat, x = y := ⟨x.toNat, by omega⟩
            have hyn : y < n := by omega
            obtain ⟨g9, cap9, hv, -, -, q8, q9, hO5, hch⟩ := HO2.out.set_ y (by rw [seenB_len]; exact hyn) true
            obtain rfl : w.heap.size = g9 := by injection hv with hv _ _; injection hv with hv; injection hv
            rw [seenB_get hyn] at q8
            rw [seenB_set] at hO5
            cases hh : hasI P2 (y : Int)
            · rw [hh] at q8
              have HG5 := Lib.hid (goodP_snoc HG2.out hi hh)
              have HO5 := Lib.hid hO5
              have HSM5 := Lib.hid (HSM2.out.set y (.bool true))
              have HB5 := Lib.hid (hch.below (Nat.le_refl _) HB4.out.size)
              clear hv hO5 hch hh
              go_wp2_with (go_at_call 14; refine (is_same hi (within_any _ _ _ _)).mono ?_; rintro e w' ⟨rfl, rfl⟩)
              go_roundw
              case rel => exact ⟨j + 1, by omega, by go_num, by rw [HT1.out, ← List.append_assoc, HP2.out]; exact ⟨HG5.out, HO5.out⟩, HSM5.out, HB4.out.trans HB5.out⟩
              case measure => simp [intOf]; omega
            · rw [hh] at q8
              have HT := Lib.hid (pars_twice (n := n) (HF.out.symm.trans HA.out) hh)
              clear hv hO5 hch hh
              go_wp2_with (go_at_call 14; refine (is_same hi (within_any _ _ _ _)).mono ?_; rintro e w' ⟨rfl, rfl⟩)
              go_ret
              exact ⟨ret_bool HT.out.symm, HB4.out⟩
        · obtain rfl : j = cur.length := by omega
          rw [List.take_length] at HG2 HO2
          go_wp2_with fail
          go_roundw
          case rel => exact ⟨k + 1, by omega, by go_num, by rw [HST.out]; exact HG2.out, by rw [HST.out]; exact HO2.out, fun p hp => (HSM2.out p hp).trans (HSM.out p hp), HB4.out⟩
          case measure => simp [intOf]; omega
    · obtain rfl : k = R.length := by omega
      have HT : Hid (parsB n (allM m) = true) := Lib.hid (by rw [← HF.out]; have := HG.out; rw [List.take_length] at this; exact goodP_pars this)
      go_wp2_with fail
      go_ret
      exact ⟨ret_bool HT.out.symm, HB.out⟩
end Go.Proofs.YtgmppfhokfifgaaGreat
/-
  Contract: the program's ValidMachine. Printed by gen_vm6.py.
-/
namespace Go.Proofs.YtgmppfhokfifgaaGreat
set_option maxRecDepth 10000
open Go.RowKit

theorem short_app (a b : List (List Int)) : shortB (a ++ b) = (shortB a && shortB b) := by simp [shortB]
theorem short_parts {a b : List (List Int)} (h : shortB (a ++ b) = true) : shortB a = true ∧ shortB b = true := by rw [short_app, Bool.and_eq_true] at h; exact h
def strB (xs : List Int) (k : Nat) : Prop := ∀ j, 0 < j → j < k → gi xs (j - 1) < gi xs j
theorem strB_zero (xs : List Int) : strB xs 0 := fun _ _ h => absurd h (Nat.not_lt_zero _)
theorem strB_step {xs : List Int} {k : Nat} (h : strB xs k) (hk : 0 < k → gi xs (k - 1) < gi xs k) : strB xs (k + 1) := fun j h0 hj => by
  by_cases e : j < k
  · exact h j h0 e
  · obtain rfl : j = k := by omega
    exact hk h0
theorem rises_out {n : Int} {xs : List Int} {k : Nat} (hk : k < xs.length) (h0 : 0 < k) (h : gi xs k ≤ gi xs (k - 1)) : risesB n xs = false := risesB_no hk (by simp [risB, h0, h])
theorem rises_pars {m : Mac} (h : strB m.dr m.dr.length) : (risesB m.lp.length m.dr && parsB m.lp.length (allM m)) = parsB m.lp.length (allM m) := by
  cases hp : parsB m.lp.length (allM m)
  · simp
  · have : risesB m.lp.length m.dr = true := risesB_iff.2 ⟨fun x hx => (parsB_iff.1 hp).1 x (by simp [allM, hx]), rises_pair.2 h⟩
    rw [this]; rfl
theorem concatFB_at {fv bv : Value} {fr bk : List (List Int)} {B : Nat} {t1 : TypeId} {w : World} (o : Obj) (hf : SlS w B fv fr) (hb : SlS w B bv bk) (hB : B ≤ w.heap.size) (hsz : fr.length + bk.length ≤ 100000) :
    Calls Tryz.prog 25 #[.slice (some ⟨w.heap.size + 1, 0, none⟩) 2 2] ((w.alloc o).alloc (.cells #[fv, bv] t1)) fun e w' => ∃ r, e = .returned r ∧ SlS w' w'.heap.size r (fr ++ bk) ∧ Below w.heap.size w w' ∧ w'.heap[w.heap.size]? = some o := by
  have e1 : (w.alloc o).heap.size = w.heap.size + 1 := World.size_alloc _ _
  have hf1 := hf.below (al1 w o) hB
  have hb1 := hb.below (al1 w o) hB
  refine (concatFB_any (w := w.alloc o) (g1 := w.heap.size + 1) (t1 := t1) hf1 hb1 (by omega) (al1 _ _) ?_ hsz).mono ?_
  · have := alloc_at_ (w.alloc o) (.cells #[fv, bv] t1)
    rw [e1] at this
    exact this
  · rintro e w' ⟨r, rfl, hs, hb'⟩
    exact ⟨r, rfl, hs, (al1 w o).trans (hb'.mono (by omega)), keep_fwd hb' (alloc_at_ w o)⟩
set_option maxRecDepth 100000 in
set_option maxHeartbeats 12800000 in
theorem ValidMachine_any {f b c l d : Value} {m : Mac} {B : Nat} {w : World} (h : SlM w B f b c l d m) (hB : B ≤ w.heap.size) :
    Calls Tryz.prog 10 #[.agg #[.int .i64 m.wd, .int .i64 m.rk, f, b, c, l, d]] w fun e w' => e = .returned (.bool (okM m)) ∧ Below w.heap.size w w' := by
  obtain ⟨Af, kf, rfl, hlf, hmf, -⟩ := id h.fr
  obtain ⟨Ab, kb, rfl, hlb, hmb, -⟩ := id h.bk
  obtain ⟨Ac, kc, rfl, hlc, hmc, -⟩ := id h.cr.cells
  obtain ⟨Al, kl, rfl, hll, hml, -⟩ := id h.lp.cells
  obtain ⟨Ad, kd, rfl, hld, hmd, -⟩ := id h.dr
  unfold maxLen at hmf hmb hmd
  have H := Lib.hid h
  clear h
  cases h1 : inR m.wd 1 24
  · have HT : Hid (okM m = false) := Lib.hid (by simp [okM, hdB, h1])
    go_enter Tryz.func10, Tryz.ntmps10
    go_wp2_with ((go_at_call 14; refine (is_same h1 (within_any m.wd 1 24 _)).mono ?_; rintro e w' ⟨rfl, rfl⟩))
    go_ret
    exact ⟨ret_bool HT.out.symm, al1 _ _⟩
  · skip
    cases h2 : inR m.rk (-3) 3
    · have HT : Hid (okM m = false) := Lib.hid (by simp [okM, hdB, h2])
      go_enter Tryz.func10, Tryz.ntmps10
      go_wp2_with (first | (go_at_call 14; refine (is_same h1 (within_any m.wd 1 24 _)).mono ?_; rintro e w' ⟨rfl, rfl⟩) | (go_at_call 24; refine (is_same h2 (isRack_any _ _)).mono ?_; rintro e w' ⟨rfl, rfl⟩))
      go_ret
      exact ⟨ret_bool HT.out.symm, al1 _ _⟩
    · skip
      by_cases n3 : (m.fr.length : Int) = m.wd
      · have N3 := Lib.hid n3
        have t3 : ((m.fr.length : Int) != m.wd) = false := by simp [n3]
        clear n3
        by_cases n4 : (m.bk.length : Int) = m.wd
        · have N4 := Lib.hid n4
          have t4 : ((m.bk.length : Int) != m.wd) = false := by simp [n4]
          clear n4
          by_cases n5 : m.cr.length = 4
          · have N5 := Lib.hid n5
            have t5 : ((m.cr.length : Int) != 4) = false := by simp; omega
            clear n5
            by_cases n6 : m.lp.length ≤ 300
            · have N6 := Lib.hid n6
              have t6 : ¬ (300 : Int) < (m.lp.length : Int) := by omega
              clear n6
              obtain ⟨w1a, w1b⟩ := inR_iff.1 h1
              have hlp : m.lp.length ≤ 300 := N6.out
              have hfb : m.fr.length + m.bk.length ≤ 100000 := by have := N3.out; have := N4.out; omega
              have HH : Hid (okM m = (crsB m && infsB m.wd m.lp && shortB m.fr && shortB m.bk && risesB m.lp.length m.dr && parsB m.lp.length (allM m))) := Lib.hid (by simp [okM, hdB, h1, h2, N3.out, N4.out, N5.out, N6.out])
              go_enter Tryz.func10, Tryz.ntmps10
              go_wp2_with (first | (go_at_call 14; refine (is_same h1 (within_any m.wd 1 24 _)).mono ?_; rintro e w' ⟨rfl, rfl⟩) | (go_at_call 24; refine (is_same h2 (isRack_any _ _)).mono ?_; rintro e w' ⟨rfl, rfl⟩) | (go_at_call 25; (refine (concatFB_at (B := B) _ H.out.fr H.out.bk hB hfb).mono ?_); rintro e w3 ⟨r3, rfl, hs3, hb3, hx3⟩; (generalize hR : m.fr ++ m.bk = R at *); obtain ⟨A3, c3, rfl, hl3, hm3, -⟩ := id hs3; have hz3 := hb3.size; have HR := Lib.hid hR; clear hR; have HB3 := Lib.hid hb3; have HS3 := Lib.hid hs3; have X := Lib.hid hx3; clear hb3 hs3 hx3))
              unfold maxLen at hm3
              have HSF : Hid (shortB R = (shortB m.fr && shortB m.bk)) := Lib.hid (by rw [← HR.out, short_app])
              go_loop [55] (fun i => ∃ k : Nat, k ≤ R.length ∧ i = .int .i64 k ∧ ∀ j, j < k → (gl R j).length ≤ 4) (fun i => R.length - (intOf i).toNat)
              case atStart => exact ⟨0, Nat.zero_le _, rfl, fun j h => absurd h (Nat.not_lt_zero _)⟩
              case round =>
                obtain ⟨k, hk, rfl, hgood⟩ := hrel
                have HG := Lib.hid hgood
                clear hgood
                by_cases hlt : k < R.length
                · obtain ⟨A9, c9, e9, -, -, -, hcell⟩ := id HS3.out
                  simp only [Value.slice.injEq] at e9
                  obtain ⟨rfl, -, rfl⟩ := e9
                  obtain ⟨b1, off, rfl, hbB, hcc⟩ := hcell (by omega)
                  obtain ⟨u, q0, s0⟩ := hcc k hlt
                  obtain ⟨Au, cu, rfl, hul, hum, -⟩ := id s0
                  unfold maxLen at hum
                  clear hcell hcc s0
                  have HNO : Hid (¬ (gl R k).length ≤ 4 → okM m = false) := Lib.hid fun hx => by
                      have := shortB_no hlt hx
                      rw [HSF.out] at this
                      rw [HH.out, Bool.and_assoc (crsB m && infsB m.wd m.lp), this]; simp
                  have HNX : Hid ((gl R k).length ≤ 4 → ∀ j, j < k + 1 → (gl R j).length ≤ 4) := Lib.hid fun hx j hj => by
                      by_cases hjk : j < k
                      · exact HG.out j hjk
                      · obtain rfl : j = k := by omega
                        exact hx
                  generalize gl R k = cur at *
                  by_cases h4 : cur.length ≤ 4
                  · have h4I : ¬ (4 : Int) < (cur.length : Int) := by omega
                    have HX := Lib.hid (HNX.out h4)
                    go_wp2_with fail
                    go_round
                    case rel => exact ⟨k + 1, by omega, by go_num, HX.out⟩
                    case measure => simp [intOf]; omega
                  · have h4I : (4 : Int) < (cur.length : Int) := by omega
                    have HT := Lib.hid (HNO.out h4)
                    go_wp2_with fail
                    go_ret
                    exact ⟨ret_bool HT.out.symm, HB3.out⟩
                · have HSH := Lib.hid (short_parts (by rw [HR.out]; exact shortB_yes fun j hj => HG.out j (by omega)))
                  have HH2 : Hid (okM m = (crsB m && infsB m.wd m.lp && risesB m.lp.length m.dr && parsB m.lp.length (allM m))) := Lib.hid (by rw [HH.out, HSH.out.1, HSH.out.2]; simp)
                  clear HG HH HSF HSH HS3
                  obtain ⟨⟨p0, p1, p2, p3, p4, p5, p6⟩, -, -⟩ := box7 X.out
                  have hb0 := HB3.out
                  clear p1 p2 p3
                  go_wp2_with fail
                  clear p0 p4 p5 p6
                  go_loopw [66] (fun i wr => ∃ k : Nat, k ≤ m.cr.length ∧ i = .int .i64 k ∧ (∀ j, j < k → crOk m.wd (gc m.cr j) = true) ∧ Below w3.heap.size w3 wr) (fun i _ => m.cr.length - (intOf i).toNat)
                  case atStart => exact ⟨0, Nat.zero_le _, rfl, fun j h => absurd h (Nat.not_lt_zero _), Below.refl _ _⟩
                  case round =>
                    obtain ⟨k, hk, rfl, hgood, hb⟩ := hrel
                    clear hb0
                    have HG := Lib.hid hgood
                    have HB4 := Lib.hid hb
                    have hz4 := hb.size
                    have HB := Lib.hid (HB3.out.trans (hb.mono hz3))
                    have G := Lib.hid (H.out.below HB.out hB)
                    have X4 := Lib.hid (keep_fwd hb X.out)
                    clear hgood hb
                    obtain ⟨⟨p0, p1, p2, p3, p4, p5, p6⟩, -, -⟩ := box7 X4.out
                    by_cases hlt : k < m.cr.length
                    · clear p1 p2 p3 p4 p5 p6
                      have hgl := heap_lt X4.out
                      obtain ⟨Ax, kx, ex, hlx, hmx, hcx⟩ := SlK.cells G.out.cr
                      simp only [Value.slice.injEq] at ex
                      obtain ⟨rfl, -, rfl⟩ := ex
                      obtain ⟨b1, o1, rfl, hb1, hcell1⟩ := hcx (by omega)
                      obtain ⟨r0, r1⟩ := hcell1 k hlt
                      clear hcell1 hcx
                      have hbw : b1 < wr.heap.size := by omega
                      have HPB : Hid (crOk m.wd (gc m.cr k) = (inR (gc m.cr k).2 (-3) (m.wd + 3) && ((gc m.cr k).1 || (gc m.cr k).2 == 0))) := Lib.hid rfl
                      have HNX : Hid (crOk m.wd (gc m.cr k) = true → ∀ j, j < k + 1 → crOk m.wd (gc m.cr j) = true) := Lib.hid fun hx j hj => by
                          by_cases hjk : j < k
                          · exact HG.out j hjk
                          · obtain rfl : j = k := by omega
                            exact hx
                      have HNO : Hid (crOk m.wd (gc m.cr k) = false → okM m = false) := Lib.hid fun hx => by rw [HH2.out, crsB_no hlt hx]; rfl
                      generalize (gc m.cr k).1 = x1 at *
                      generalize (gc m.cr k).2 = x2 at *
                      have ha := al1 wr (.cells #[.bool x1, .int .i64 x2] 64)
                      have HA := Lib.hid (HB4.out.trans (ha.mono hz4))
                      clear ha
                      cases hi : inR x2 (-3) (m.wd + 3)
                      · have HT := Lib.hid (HNO.out (by rw [HPB.out, hi]; rfl))
                        go_wp2_with (go_at_call 14; refine (is_same hi (within_any _ _ _ _)).mono ?_; rintro e w' ⟨rfl, rfl⟩)
                        go_ret
                        exact ⟨ret_bool HT.out.symm, HB3.out.trans (HA.out.mono hz3)⟩
                      · cases hx1 : x1
                        · by_cases hx2 : x2 = 0
                          · subst hx2
                            have HX := Lib.hid (HNX.out (by rw [HPB.out, hi, hx1]; rfl))
                            subst hx1
                            go_wp2_with (go_at_call 14; refine (is_same hi (within_any _ _ _ _)).mono ?_; rintro e w' ⟨rfl, rfl⟩)
                            go_roundw
                            case rel => exact ⟨k + 1, by omega, by go_num, HX.out, HA.out⟩
                            case measure => simp [intOf]; omega
                          · have z2 : (x2 != 0) = true := by simp [hx2]
                            have HT := Lib.hid (HNO.out (by rw [HPB.out, hi, hx1]; simp [hx2]))
                            subst hx1
                            clear hx2
                            go_wp2_with (go_at_call 14; refine (is_same hi (within_any _ _ _ _)).mono ?_; rintro e w' ⟨rfl, rfl⟩)
                            go_ret
                            exact ⟨ret_bool HT.out.symm, HB3.out.trans (HA.out.mono hz3)⟩
                        · have HX := Lib.hid (HNX.out (by rw [HPB.out, hi, hx1]; rfl))
                          subst hx1
                          go_wp2_with (go_at_call 14; refine (is_same hi (within_any _ _ _ _)).mono ?_; rintro e w' ⟨rfl, rfl⟩)
                          go_roundw
                          case rel => exact ⟨k + 1, by omega, by go_num, HX.out, HA.out⟩
                          case measure => simp [intOf]; omega
                    · have HC := Lib.hid (crsB_yes (m := m) fun j hj => HG.out j (by omega))
                      obtain ⟨w5, hw5⟩ : ∃ x, x = wr := ⟨_, rfl⟩
                      subst hw5
                      have HH3 : Hid (okM m = (infsB m.wd m.lp && risesB m.lp.length m.dr && parsB m.lp.length (allM m))) := Lib.hid (by rw [HH2.out, HC.out]; rfl)
                      have hz5 := HB.out.size
                      clear HG HH2 HC HB4 G X
                      go_wp2_with fail
                      clear p0 p1 p2 p3 p4 p5 p6
                      go_loopw [91] (fun i wr => ∃ k : Nat, k ≤ m.lp.length ∧ i = .int .i64 k ∧ (∀ j, j < k → infI m.wd m.lp j = true) ∧ Below w5.heap.size w5 wr) (fun i _ => m.lp.length - (intOf i).toNat)
                      case atStart => exact ⟨0, Nat.zero_le _, rfl, fun j h => absurd h (Nat.not_lt_zero _), Below.refl _ _⟩
                      case round =>
                        obtain ⟨k, hk, rfl, hgood, hb⟩ := hrel
                        have HG := Lib.hid hgood
                        have HB5 := Lib.hid hb
                        have hz6 := hb.size
                        have HB6 := Lib.hid (HB.out.trans (hb.mono hz5))
                        have G := Lib.hid (H.out.below HB6.out hB)
                        have X5 := Lib.hid (keep_fwd hb X4.out)
                        clear hgood hb
                        obtain ⟨⟨p0, p1, p2, p3, p4, p5, p6⟩, -, -⟩ := box7 X5.out
                        by_cases hlt : k < m.lp.length
                        · clear p1 p2 p3 p4 p5 p6
                          obtain ⟨Ax, kx, ex, hlx, hmx, hcx⟩ := SlF.cells G.out.lp
                          simp only [Value.slice.injEq] at ex
                          obtain ⟨rfl, -, rfl⟩ := ex
                          obtain ⟨b1, o1, rfl, hb1, hcell1⟩ := hcx (by omega)
                          obtain ⟨hn, u, r5, s5⟩ := hcell1 k hlt
                          obtain ⟨r0, r1, r2, r3, r4⟩ := five_of hn
                          clear hcell1 hcx hn
                          have hbw : b1 < wr.heap.size := by omega
                          have hk300 : (k : Int) ≤ 300 := by omega
                          have HPB : Hid (infI m.wd m.lp k = infB m.wd k (gi (gl m.lp k) 0) (gi (gl m.lp k) 1) (gi (gl m.lp k) 2) (gi (gl m.lp k) 3) (gi (gl m.lp k) 4) ((gl m.lp k).drop 5)) := Lib.hid rfl
                          have HNX : Hid (infI m.wd m.lp k = true → ∀ j, j < k + 1 → infI m.wd m.lp j = true) := Lib.hid fun hx j hj => by
                              by_cases hjk : j < k
                              · exact HG.out j hjk
                              · obtain rfl : j = k := by omega
                                exact hx
                          have HNO : Hid (infI m.wd m.lp k = false → okM m = false) := Lib.hid fun hx => by rw [HH3.out, infsB_no hlt hx]; rfl
                          generalize gi (gl m.lp k) 0 = x0 at *
                          generalize gi (gl m.lp k) 1 = x1 at *
                          generalize gi (gl m.lp k) 2 = x2 at *
                          generalize gi (gl m.lp k) 3 = x3 at *
                          generalize gi (gl m.lp k) 4 = x4 at *
                          generalize (gl m.lp k).drop 5 = ps at *
                          have S5 := Lib.hid s5
                          clear s5
                          have hg := heap_lt X5.out
                          have ha := al1 wr (.cells #[.int .i64 x0, .int .i64 x1, .int .i64 x2, .int .i64 x3, .int .i64 x4, u] 47)
                          have HA := Lib.hid (HB5.out.trans (ha.mono hz6))
                          have HSU := Lib.hid (S5.out.below ha (by omega))
                          have hpc : (wr.alloc (.cells #[.int .i64 x0, .int .i64 x1, .int .i64 x2, .int .i64 x3, .int .i64 x4, u] 47)).cell? ⟨w.heap.size, 0, none⟩ = some (.int .i64 m.wd) := by rw [ha.cell (by simp only; omega)]; exact p0
                          have HPC := Lib.hid hpc
                          clear ha hpc
                          obtain ⟨Au, cu, rfl, hul, hum, -⟩ := id S5.out
                          unfold maxLen at hum
                          cases hT : infB m.wd k x0 x1 x2 x3 x4 ps
                          · have HT := Lib.hid (HNO.out (by rw [HPB.out, hT]))
                            go_wp2_with (go_at_call 26; (refine (is_below hT (isInfo_any HSU.out (by simp; omega) HPC.out w1a w1b (by omega) hk300)).mono ?_); rintro e w7 ⟨rfl, hb7⟩; have HB7 := Lib.hid hb7; clear hb7)
                            go_ret
                            exact ⟨ret_bool HT.out.symm, HB.out.trans ((HA.out.trans (HB7.out.mono (by have := HA.out.size; omega))).mono hz5)⟩
                          · have HX := Lib.hid (HNX.out (by rw [HPB.out, hT]))
                            go_wp2_with (go_at_call 26; (refine (is_below hT (isInfo_any HSU.out (by simp; omega) HPC.out w1a w1b (by omega) hk300)).mono ?_); rintro e w7 ⟨rfl, hb7⟩; have HB7 := Lib.hid hb7; clear hb7)
                            go_roundw
                            case rel => exact ⟨k + 1, by omega, by go_num, HX.out, HA.out.trans (HB7.out.mono (by have := HA.out.size; omega))⟩
                            case measure => simp [intOf]; omega
                        · have HC := Lib.hid (infsB_yes (wd := m.wd) (L := m.lp) fun j hj => HG.out j (by omega))
                          have HH4 : Hid (okM m = (risesB m.lp.length m.dr && parsB m.lp.length (allM m))) := Lib.hid (by rw [HH3.out, HC.out]; rfl)
                          obtain ⟨w6, hw6⟩ : ∃ x, x = wr := ⟨_, rfl⟩
                          subst hw6
                          clear HG HH3 HC HB5 HB
                          have hz7 := HB6.out.size
                          go_wp2_with fail
                          go_loopw [104] (fun i wr => ∃ k : Nat, k ≤ m.dr.length ∧ i = .int .i64 k ∧ strB m.dr k ∧ ∃ n, wr = w6.drewN n) (fun i _ => m.dr.length - (intOf i).toNat)
                          case atStart => exact ⟨0, Nat.zero_le _, rfl, strB_zero _, 0, rfl⟩
                          case round =>
                            obtain ⟨k, hk, rfl, hgood, n, rfl⟩ := hrel
                            have HG := Lib.hid hgood
                            clear hgood
                            by_cases hlt : k < m.dr.length
                            · obtain ⟨A9, c9, e9, -, -, -, hcell⟩ := id G.out.dr
                              simp only [Value.slice.injEq] at e9
                              obtain ⟨rfl, -, rfl⟩ := e9
                              obtain ⟨b1, off, rfl, hbB, hcc⟩ := hcell (by omega)
                              have r1 := hcc k hlt
                              have HNO : Hid (0 < k → gi m.dr k ≤ gi m.dr (k - 1) → okM m = false) := Lib.hid fun h0 hx => by rw [HH4.out, rises_out hlt h0 hx]; rfl
                              have HNX : Hid ((0 < k → gi m.dr (k - 1) < gi m.dr k) → strB m.dr (k + 1)) := Lib.hid fun hx => strB_step HG.out hx
                              by_cases h0 : 0 < k
                              · obtain ⟨j, rfl⟩ : ∃ j, k = j + 1 := ⟨k - 1, by omega⟩
                                have r2 := hcc j (by omega)
                                rw [Nat.add_sub_cancel] at HNO HNX
                                clear hcell hcc
                                have h0I : (0 : Int) < ((j + 1 : Nat) : Int) := by omega
                                generalize gi m.dr (j + 1) = x at *
                                generalize gi m.dr j = y at *
                                by_cases hle : x ≤ y
                                · have HT := Lib.hid (HNO.out h0 hle)
                                  go_wp2_with fail
                                  go_quiet (fail)
                                  go_wp2
                                  go_ret
                                  exact ⟨ret_bool HT.out.symm, below_drewN (below_drewN HB6.out _) _⟩
                                · have HX := Lib.hid (HNX.out fun _ => by omega)
                                  go_wp2_with fail
                                  go_quiet (fail)
                                  go_wp2
                                  go_roundw
                                  case rel => exact ⟨j + 1 + 1, by omega, by go_num, HX.out, _, rfl⟩
                                  case measure => simp [intOf]; omega
                              · obtain rfl : k = 0 := by omega
                                clear hcell hcc
                                have HX := Lib.hid (HNX.out fun h => absurd h (by omega))
                                clear h0
                                go_wp2_with fail
                                go_quiet (fail)
                                go_wp2
                                go_roundw
                                case rel => exact ⟨0 + 1, by omega, by go_num, HX.out, _, rfl⟩
                                case measure => simp [intOf]; omega
                            · obtain rfl : k = m.dr.length := by omega
                              have HT : Hid (okM m = parsB m.lp.length (allM m)) := Lib.hid (by rw [HH4.out]; exact rises_pars HG.out)
                              have hx6 : (w6.drewN n).heap[w.heap.size]? = _ := X5.out
                              have X6 := Lib.hid hx6
                              have G6 := Lib.hid (H.out.below (below_drewN HB6.out n) hB)
                              have HB8 := Lib.hid (below_drewN HB6.out n)
                              have hz8 : w.heap.size ≤ (w6.drewN n).heap.size := HB8.out.size
                              clear hx6 p0 p1 p2 p3 p4 p5 p6 G
                              go_wp2_with (go_at_call 27; (refine (areApart_any G6.out (Nat.le_trans hB hz8) X6.out hfb hlp).mono ?_); rintro e w7 ⟨rfl, hb7⟩; have HB7 := Lib.hid hb7; clear hb7)
                              go_ret
                              exact ⟨ret_bool HT.out.symm, HB8.out.trans (HB7.out.mono hz8)⟩
            · have HT : Hid (okM m = false) := Lib.hid (by simp [okM, hdB, n6])
              have t6 : (300 : Int) < (m.lp.length : Int) := by omega
              clear n6
              go_enter Tryz.func10, Tryz.ntmps10
              go_wp2_with (first | (go_at_call 14; refine (is_same h1 (within_any m.wd 1 24 _)).mono ?_; rintro e w' ⟨rfl, rfl⟩) | (go_at_call 24; refine (is_same h2 (isRack_any _ _)).mono ?_; rintro e w' ⟨rfl, rfl⟩))
              go_ret
              exact ⟨ret_bool HT.out.symm, al1 _ _⟩
          · have HT : Hid (okM m = false) := Lib.hid (by simp [okM, hdB, n5])
            have t5 : ((m.cr.length : Int) != 4) = true := by simp; omega
            clear n5
            go_enter Tryz.func10, Tryz.ntmps10
            go_wp2_with (first | (go_at_call 14; refine (is_same h1 (within_any m.wd 1 24 _)).mono ?_; rintro e w' ⟨rfl, rfl⟩) | (go_at_call 24; refine (is_same h2 (isRack_any _ _)).mono ?_; rintro e w' ⟨rfl, rfl⟩))
            go_ret
            exact ⟨ret_bool HT.out.symm, al1 _ _⟩
        · have HT : Hid (okM m = false) := Lib.hid (by simp [okM, hdB, n4])
          have t4 : ((m.bk.length : Int) != m.wd) = true := by simp [n4]
          clear n4
          go_enter Tryz.func10, Tryz.ntmps10
          go_wp2_with (first | (go_at_call 14; refine (is_same h1 (within_any m.wd 1 24 _)).mono ?_; rintro e w' ⟨rfl, rfl⟩) | (go_at_call 24; refine (is_same h2 (isRack_any _ _)).mono ?_; rintro e w' ⟨rfl, rfl⟩))
          go_ret
          exact ⟨ret_bool HT.out.symm, al1 _ _⟩
      · have HT : Hid (okM m = false) := Lib.hid (by simp [okM, hdB, n3])
        have t3 : ((m.fr.length : Int) != m.wd) = true := by simp [n3]
        clear n3
        go_enter Tryz.func10, Tryz.ntmps10
        go_wp2_with (first | (go_at_call 14; refine (is_same h1 (within_any m.wd 1 24 _)).mono ?_; rintro e w' ⟨rfl, rfl⟩) | (go_at_call 24; refine (is_same h2 (isRack_any _ _)).mono ?_; rintro e w' ⟨rfl, rfl⟩))
        go_ret
        exact ⟨ret_bool HT.out.symm, al1 _ _⟩
end Go.Proofs.YtgmppfhokfifgaaGreat
/-
  Contracts: the program's place, PlaceOf, facing, FacingOf, on, LoopsOn.
-/
namespace Go.Proofs.YtgmppfhokfifgaaGreat
set_option maxRecDepth 10000
open Go.RowKit

theorem plc_yes {b a r : Int} (h : b = 2) : plc b a r = a + r := if_pos h
theorem plc_no {b a r : Int} (h : b ≠ 2) : plc b a r = a := if_neg h
theorem plc_bd {b a r : Int} (h1 : 0 ≤ a ∧ a ≤ 23) (h2 : -3 ≤ r ∧ r ≤ 3) : -3 ≤ plc b a r ∧ plc b a r ≤ 26 := by unfold plc; split <;> omega
set_option maxHeartbeats 800000 in
theorem iplace_any (b a r : Int) (w : World) (h1 : 0 ≤ a ∧ a ≤ 23) (h2 : -3 ≤ r ∧ r ≤ 3) : Calls Tryz.prog 49 #[.agg #[.int .i64 b, .int .i64 a], .int .i64 r] w fun e w' => e = .returned (.int .i64 (plc b a r)) ∧ Below w.heap.size w w' := by
  obtain ⟨a0, a1⟩ := h1
  obtain ⟨r0, r1⟩ := h2
  by_cases hb : b = 2
  · have HT := Lib.hid (plc_yes (a := a) (r := r) hb)
    subst hb
    go_enter Tryz.func49, Tryz.ntmps49
    go_wp2
    go_ret
    exact ⟨ret_int HT.out.symm, al1 _ _⟩
  · have hbb : (b == 2) = false := by simp [hb]
    have HT := Lib.hid (plc_no (a := a) (r := r) hb)
    clear hb
    go_enter Tryz.func49, Tryz.ntmps49
    go_wp2
    go_ret
    exact ⟨ret_int HT.out.symm, al1 _ _⟩
theorem cellBed {w : World} {g : Nat} {x0 x1 f b x4 x5 x6 : Value} {t : TypeId} (hx : w.heap[g]? = some (.cells #[x0, x1, f, b, x4, x5, x6] t)) : w.cell? ⟨g, 2, none⟩ = some f ∧ w.cell? ⟨g, 3, none⟩ = some b ∧ g < w.heap.size :=
  ⟨(box7 hx).1.2.2.1, (box7 hx).1.2.2.2.1, heap_lt hx⟩
set_option maxHeartbeats 1600000 in
theorem on_any {x0 x1 f b x4 x5 x6 : Value} {t : TypeId} {g : Nat} {bed a : Int} {p o n c k : Nat} {w : World} (hx : w.heap[g]? = some (.cells #[x0, x1, f, b, x4, x5, x6] t)) (hb : bed = 1 ∨ bed = 2) (ha : a = (k : Int)) (hk : k < n)
    (hs : (if bed = 2 then b else f) = .slice (some ⟨p, o, none⟩) n c) :
    Calls Tryz.prog 44 #[.pointer (some ⟨g, 0, none⟩), .agg #[.int .i64 bed, .int .i64 a]] w fun e w' => e = .returned (.pointer (some ⟨p, o + k, none⟩)) ∧ Below w.heap.size w w' := by
  obtain ⟨q2, q3, hg⟩ := cellBed hx
  subst ha
  have HA := Lib.hid (al1 w (.cells #[.int .i64 bed, .int .i64 k] 36))
  clear hx
  rcases hb with rfl | rfl
  · rw [if_neg (by omega)] at hs
    subst hs
    go_enter Tryz.func44, Tryz.ntmps44
    go_wp2_with fail
    go_quiet (fail)
    go_wp2
    go_ret
    exact ⟨rfl, below_drewN HA.out _⟩
  · rw [if_pos rfl] at hs
    subst hs
    go_enter Tryz.func44, Tryz.ntmps44
    go_wp2_with fail
    go_quiet (fail)
    go_wp2
    go_ret
    exact ⟨rfl, below_drewN HA.out _⟩
end Go.Proofs.YtgmppfhokfifgaaGreat
/-
  Contracts: the program's OtherBed, facing, FacingOf, LoopsOn.
-/
namespace Go.Proofs.YtgmppfhokfifgaaGreat
set_option maxRecDepth 10000
open Go.RowKit

def faceP (m : Mac) (b a : Int) : Int := if b = 2 then a + m.rk else a - m.rk
theorem faceP_yes {m : Mac} {b a : Int} (h : b = 2) : faceP m b a = a + m.rk := if_pos h
theorem faceP_no {m : Mac} {b a : Int} (h : b ≠ 2) : faceP m b a = a - m.rk := if_neg h
set_option maxHeartbeats 800000 in
theorem OtherBed_any {b : Int} (w : World) (h : b = 1 ∨ b = 2) : Calls Tryz.prog 88 #[.int .i64 b] w fun e w' => e = .returned (.int .i64 (3 - b)) ∧ w = w' := by
  rcases h with rfl | rfl
  · go_enter Tryz.func88, Tryz.ntmps88
    go_wp2
    go_ret
    exact ⟨rfl, rfl⟩
  · go_enter Tryz.func88, Tryz.ntmps88
    go_wp2
    go_ret
    exact ⟨rfl, rfl⟩
theorem box2f {w : World} {g : Nat} {a b : Value} {t : TypeId} (h : w.heap[g]? = some (.cells #[a, b] t)) : w.cell? ⟨g, 0, none⟩ = some a ∧ w.cell? ⟨g, 1, none⟩ = some b ∧ w.frozen? ⟨g, 0, none⟩ = false ∧ w.frozen? ⟨g, 1, none⟩ = false ∧ g < w.heap.size := box2 h
theorem alloc_keep {w : World} {g : Nat} {o : Obj} (h : w.heap[g]? = some o) (o' : Obj) : (w.alloc o').heap[g]? = some o := (Below.heap_alloc _ _ _ (heap_lt h)).trans h
theorem faceP_bd {m : Mac} {b a : Int} (h1 : 0 ≤ a ∧ a ≤ 23) (h2 : -3 ≤ m.rk ∧ m.rk ≤ 3) : -3 ≤ faceP m b a ∧ faceP m b a ≤ 26 := by unfold faceP; split <;> omega
set_option maxHeartbeats 3200000 in
theorem facing_any {m : Mac} {f b c l d : Value} {g : Nat} {nb na : Int} {w : World} (hx : w.heap[g]? = some (.cells #[.int .i64 m.wd, .int .i64 m.rk, f, b, c, l, d] 31)) (hb : nb = 1 ∨ nb = 2) (ha : 0 ≤ na ∧ na ≤ 23) (hr : -3 ≤ m.rk ∧ m.rk ≤ 3) (hw : 1 ≤ m.wd ∧ m.wd ≤ 24) :
    Calls Tryz.prog 77 #[.pointer (some ⟨g, 0, none⟩), .agg #[.int .i64 nb, .int .i64 na]] w fun e w' => e = .returned (.tuple #[.agg #[.int .i64 (3 - nb), .int .i64 (faceP m nb na)], .bool (inR (faceP m nb na) 0 (m.wd - 1))]) ∧ Below w.heap.size w w' := by
  have HFB := Lib.hid (faceP_bd (b := nb) ha hr)
  obtain ⟨a0, a1⟩ := ha
  obtain ⟨r0, r1⟩ := hr
  obtain ⟨w0, w1⟩ := hw
  have hgl := heap_lt hx
  have X := Lib.hid hx
  obtain ⟨⟨p0, p1, -, -, -, -, -⟩, -, -⟩ := box7 hx
  clear hx
  rcases hb with rfl | rfl
  · have HP := Lib.hid (faceP_no (m := m) (b := 1) (a := na) (by omega))
    have hwr : IntKind.i64.wrap (na - m.rk) = na - m.rk := IntWalk.i64_in _ (by omega)
    go_enter Tryz.func77, Tryz.ntmps77
    go_wp2_with fail
    generalize hW : (w.alloc (.cells #[.int .i64 1, .int .i64 na] 36)).alloc (.cells #[.int .i64 0, .int .i64 0] 36) = w1
    have hb1 : Below w.heap.size w w1 := by rw [← hW]; exact al2 w _ _
    have hs1 : w.heap.size + 1 < w1.heap.size := by rw [← hW]; simp
    have x1 : w1.heap[w.heap.size]? = some (.cells #[.int .i64 1, .int .i64 na] 36) := by rw [← hW]; exact alloc_keep (alloc_at_ _ _) _
    have x2 : w1.heap[w.heap.size + 1]? = some (.cells #[.int .i64 0, .int .i64 0] 36) := by rw [← hW]; have := alloc_at_ (w.alloc (.cells #[.int .i64 1, .int .i64 na] 36)) (.cells #[.int .i64 0, .int .i64 0] 36); rw [World.size_alloc] at this; exact this
    have X1 := Lib.hid x1
    have X2 := Lib.hid x2
    have XG := Lib.hid (keep_fwd hb1 X.out)
    have HB1 := Lib.hid hb1
    have hg1 := hb1.size
    clear hW x1 x2 hb1 p0 p1
    obtain ⟨n0, n1, -, -, -⟩ := box2f X1.out
    obtain ⟨⟨-, g1, -, -, -, -, -⟩, -, -⟩ := box7 XG.out
    have HK := Lib.hid (fun w' (hw : Below w1.heap.size w1 w') => show (w'.cell? ⟨w.heap.size, 0, none⟩ = some (.int .i64 1) ∧ w'.cell? ⟨w.heap.size, 1, none⟩ = some (.int .i64 na) ∧ w'.cell? ⟨g, 1, none⟩ = some (.int .i64 m.rk)) ∧ Below w1.heap.size w1 w' from
      ⟨⟨by rw [hw.cell (by simp only; omega)]; exact n0, by rw [hw.cell (by simp only; omega)]; exact n1, by rw [hw.cell (by simp only; omega)]; exact g1⟩, hw⟩)
    go_region_held3 (fun w' => (w'.cell? ⟨w.heap.size, 0, none⟩ = some (.int .i64 1) ∧ w'.cell? ⟨w.heap.size, 1, none⟩ = some (.int .i64 na) ∧ w'.cell? ⟨g, 1, none⟩ = some (.int .i64 m.rk)) ∧ Below w1.heap.size w1 w') (exact HK.out _ (by first | assumption | go_grown))
      ((go_at_call 88; (refine (OtherBed_any _ (.inl rfl)).mono ?_); rintro e w' ⟨rfl, rfl⟩))
    all_goals
      try rw [hwr]
      generalize hW : (w1.alloc (.cells #[.int .i64 2, .int .i64 (na - m.rk)] 36)).drew = w2
      have hb2 : Below w1.heap.size w1 w2 := by rw [← hW]; exact (al1 w1 _).drew
      have hs2 : w1.heap.size < w2.heap.size := by rw [← hW]; simp
      have x3 : w2.heap[w1.heap.size]? = some (.cells #[.int .i64 2, .int .i64 (na - m.rk)] 36) := by rw [← hW]; exact alloc_at_ w1 _
      have X3 := Lib.hid x3
      have X4 := Lib.hid (keep_fwd hb2 X2.out)
      have XG2 := Lib.hid (keep_fwd hb2 XG.out)
      have HB2 := Lib.hid (HB1.out.trans (hb2.mono hg1))
      have n0' := (hb2.cell (p := ⟨w.heap.size, 0, none⟩) (by simp only; omega)).trans n0
      have hg2 := HB2.out.size
      clear hW x3 hb2 n0 n1 g1 HK hwr
      obtain ⟨q0, q1, -, -, -⟩ := box2f X3.out
      obtain ⟨⟨g0, -, -, -, -, -, -⟩, -, -⟩ := box7 XG2.out
      obtain ⟨c0, c1, f0, f1, -⟩ := box2f X4.out
      have hwr2 : IntKind.i64.wrap (m.wd - 1) = m.wd - 1 := IntWalk.i64_in _ (by omega)
      have hne1 : ¬ w.heap.size + 1 = w1.heap.size := by omega
      have hne2 : ¬ w.heap.size + 1 = g := by omega
      go_wp2_with fail
      go_region_held3 (fun w' => w'.cell? ⟨w1.heap.size, 0, none⟩ = some (.int .i64 2) ∧ w'.cell? ⟨w1.heap.size, 1, none⟩ = some (.int .i64 (na - m.rk)) ∧ w'.cell? ⟨g, 0, none⟩ = some (.int .i64 m.wd)) (go_keep)
        ((go_at_call 14; (refine (within_any _ _ _ _).mono ?_); rintro e w' ⟨rfl, rfl⟩))
      all_goals
        go_wp2_with fail
        refine bodyPost_ret (v := .tuple #[.agg #[.int .i64 2, .int .i64 (na - m.rk)], .bool (inR (na - m.rk) 0 (m.wd - 1))]) (by simp [results, Tryz.results77, go_sem, c0, c1]) rfl ⟨by rw [HP.out]; rfl, ?_⟩
        exact (setB (by simp only; omega) (setB (by simp only; omega) HB2.out)).drew
  · have HP := Lib.hid (faceP_yes (m := m) (b := 2) (a := na) (by omega))
    have hwr : IntKind.i64.wrap (na - m.rk) = na - m.rk := IntWalk.i64_in _ (by omega)
    go_enter Tryz.func77, Tryz.ntmps77
    go_wp2_with fail
    generalize hW : (w.alloc (.cells #[.int .i64 2, .int .i64 na] 36)).alloc (.cells #[.int .i64 0, .int .i64 0] 36) = w1
    have hb1 : Below w.heap.size w w1 := by rw [← hW]; exact al2 w _ _
    have hs1 : w.heap.size + 1 < w1.heap.size := by rw [← hW]; simp
    have x1 : w1.heap[w.heap.size]? = some (.cells #[.int .i64 2, .int .i64 na] 36) := by rw [← hW]; exact alloc_keep (alloc_at_ _ _) _
    have x2 : w1.heap[w.heap.size + 1]? = some (.cells #[.int .i64 0, .int .i64 0] 36) := by rw [← hW]; have := alloc_at_ (w.alloc (.cells #[.int .i64 2, .int .i64 na] 36)) (.cells #[.int .i64 0, .int .i64 0] 36); rw [World.size_alloc] at this; exact this
    have X1 := Lib.hid x1
    have X2 := Lib.hid x2
    have XG := Lib.hid (keep_fwd hb1 X.out)
    have HB1 := Lib.hid hb1
    have hg1 := hb1.size
    clear hW x1 x2 hb1 p0 p1
    obtain ⟨n0, n1, -, -, -⟩ := box2f X1.out
    obtain ⟨⟨-, g1, -, -, -, -, -⟩, -, -⟩ := box7 XG.out
    have HK := Lib.hid (fun w' (hw : Below w1.heap.size w1 w') => show (w'.cell? ⟨w.heap.size, 0, none⟩ = some (.int .i64 2) ∧ w'.cell? ⟨w.heap.size, 1, none⟩ = some (.int .i64 na) ∧ w'.cell? ⟨g, 1, none⟩ = some (.int .i64 m.rk)) ∧ Below w1.heap.size w1 w' from
      ⟨⟨by rw [hw.cell (by simp only; omega)]; exact n0, by rw [hw.cell (by simp only; omega)]; exact n1, by rw [hw.cell (by simp only; omega)]; exact g1⟩, hw⟩)
    go_region_held3 (fun w' => (w'.cell? ⟨w.heap.size, 0, none⟩ = some (.int .i64 2) ∧ w'.cell? ⟨w.heap.size, 1, none⟩ = some (.int .i64 na) ∧ w'.cell? ⟨g, 1, none⟩ = some (.int .i64 m.rk)) ∧ Below w1.heap.size w1 w') (exact HK.out _ (by first | assumption | go_grown))
      ((go_at_call 88; (refine (OtherBed_any _ (.inr rfl)).mono ?_); rintro e w' ⟨rfl, rfl⟩))
    all_goals
      try rw [hwr]
      generalize hW : (w1.alloc (.cells #[.int .i64 1, .int .i64 (na - m.rk)] 36)).drew = w2
      have hb2 : Below w1.heap.size w1 w2 := by rw [← hW]; exact (al1 w1 _).drew
      have hs2 : w1.heap.size < w2.heap.size := by rw [← hW]; simp
      have x3 : w2.heap[w1.heap.size]? = some (.cells #[.int .i64 1, .int .i64 (na - m.rk)] 36) := by rw [← hW]; exact alloc_at_ w1 _
      have X3 := Lib.hid x3
      have X4 := Lib.hid (keep_fwd hb2 X2.out)
      have XG2 := Lib.hid (keep_fwd hb2 XG.out)
      have HB2 := Lib.hid (HB1.out.trans (hb2.mono hg1))
      have n0' := (hb2.cell (p := ⟨w.heap.size, 0, none⟩) (by simp only; omega)).trans n0
      have hg2 := HB2.out.size
      have n1' := (hb2.cell (p := ⟨w.heap.size, 1, none⟩) (by simp only; omega)).trans n1
      clear hW x3 hb2 n0 n1 g1 HK hwr
      obtain ⟨q0, q1, -, k1, -⟩ := box2f X3.out
      obtain ⟨⟨g0, g1, -, -, -, -, -⟩, -, -⟩ := box7 XG2.out
      obtain ⟨c0, c1, f0, f1, -⟩ := box2f X4.out
      have hwr2 : IntKind.i64.wrap (m.wd - 1) = m.wd - 1 := IntWalk.i64_in _ (by omega)
      have hne1 : ¬ w.heap.size + 1 = w1.heap.size := by omega
      have hne2 : ¬ w.heap.size + 1 = g := by omega
      have hwr : IntKind.i64.wrap (na + m.rk) = na + m.rk := IntWalk.i64_in _ (by omega)
      have hne3 : ¬ w1.heap.size = w.heap.size := by omega
      have hne4 : ¬ w1.heap.size = g := by omega
      go_wp2_with fail
      go_region_held3 (fun w' => w'.cell? ⟨w.heap.size, 1, none⟩ = some (.int .i64 na) ∧ w'.cell? ⟨g, 1, none⟩ = some (.int .i64 m.rk)) (go_keep) (fail)
      generalize hW : (w2.setCell ⟨w1.heap.size, 1, none⟩ (.int .i64 (na + m.rk))).drew = w3
      have hs3 : w3.heap.size = w2.heap.size := by rw [← hW]; simp [World.setCell]
      have x3 : w3.heap[w1.heap.size]? = some (.cells #[.int .i64 1, .int .i64 (na + m.rk)] 36) := by rw [← hW]; exact heap_setCell_at (k := 1) _ X3.out
      have x4 : w3.heap[w.heap.size + 1]? = some (.cells #[.int .i64 0, .int .i64 0] 36) := by rw [← hW]; exact (Below.heap_setCell w2 _ _ _ (by simp only; omega)).trans X4.out
      have xg : w3.heap[g]? = some (.cells #[.int .i64 m.wd, .int .i64 m.rk, f, b, c, l, d] 31) := by rw [← hW]; exact (Below.heap_setCell w2 _ _ _ (by simp only; omega)).trans XG2.out
      have HB3 : Hid (Below w.heap.size w w3) := Lib.hid (by rw [← hW]; exact (setB (by simp only; omega) HB2.out).drew)
      clear hW q0 q1 g0 g1 c0 c1 f0 f1 n0' n1' k1 hwr
      obtain ⟨q0, q1, -, -, -⟩ := box2f x3
      obtain ⟨⟨g0, -, -, -, -, -, -⟩, -, -⟩ := box7 xg
      obtain ⟨c0, c1, f0, f1, -⟩ := box2f x4
      clear x3 x4 xg
      go_wp2_with fail
      go_region_held3 (fun w' => w'.cell? ⟨w1.heap.size, 0, none⟩ = some (.int .i64 1) ∧ w'.cell? ⟨w1.heap.size, 1, none⟩ = some (.int .i64 (na + m.rk)) ∧ w'.cell? ⟨g, 0, none⟩ = some (.int .i64 m.wd)) (go_keep)
        ((go_at_call 14; (refine (within_any _ _ _ _).mono ?_); rintro e w' ⟨rfl, rfl⟩))
      all_goals
        go_wp2_with fail
        refine bodyPost_ret (v := .tuple #[.agg #[.int .i64 1, .int .i64 (na + m.rk)], .bool (inR (na + m.rk) 0 (m.wd - 1))]) (by simp [results, Tryz.results77, go_sem, c0, c1]) rfl ⟨by rw [HP.out]; rfl, ?_⟩
        exact (setB (by simp only; omega) (setB (by simp only; omega) HB3.out)).drew
end Go.Proofs.YtgmppfhokfifgaaGreat
/-
  Contracts: the reference's l07Ok (is a machine valid). Printed by gen_vm4.py.
-/
namespace Go.Proofs.YtgmppfhokfifgaaGreat
set_option maxRecDepth 10000
open Go.RowKit
theorem Ow.same {w w' : World} {lo hi : Nat} {v : Value} {xs : List Int} (h : Ow w lo hi v xs) (e : w'.heap = w.heap) : Ow w' lo hi v xs := h.keep fun k _ _ => by rw [e]
theorem Sl.same {w w' : World} {B : Nat} {v : Value} {xs : List Int} (h : Sl w B v xs) (e : w'.heap = w.heap) : Sl w' B v xs := h.keep fun p _ => by simp only [World.cell?, e]
theorem grown_of {w w' : World} {lo hi B : Nat} {v : Value} {xs : List Int} (hg : w.grownBy w' v.ownBlock) (h : Ow w lo hi v xs) (hB : B ≤ lo) (hs : B ≤ w.heap.size) : Below B w w' := h.grown hg hB hs
theorem l07Info_q {T : Bool} {wd n a0 a1 a2 a3 a4 : Int} {v : Value} {ps : List Int} {B b o : Nat} {w : World} (hT : infB wd n a0 a1 a2 a3 a4 ps = T) (h : Sl w B v ps) (q0 : w.cell? ⟨b, o, none⟩ = some (.int .i64 a0)) (q1 : w.cell? ⟨b, o + 1, none⟩ = some (.int .i64 a1)) (q2 : w.cell? ⟨b, o + 2, none⟩ = some (.int .i64 a2)) (q3 : w.cell? ⟨b, o + 3, none⟩ = some (.int .i64 a3)) (q4 : w.cell? ⟨b, o + 4, none⟩ = some (.int .i64 a4)) (q5 : w.cell? ⟨b, o + 5, none⟩ = some v) (hw0 : 1 ≤ wd) (hw1 : wd ≤ 24) (hn0 : 0 ≤ n) (hn1 : n ≤ 300) (j x : Nat) :
    Calls Tryz.prog 51 #[.pointer (some ⟨b, o, none⟩), .int .i64 wd, .int .i64 n] (w.drewN (j + x)) fun e w'' => e = .returned (.bool T) ∧ ∃ m, w'' = w.drewN (j + m) :=
  (l07Info_any (w := w.drewN (j + x)) (h.drewN _) q0 q1 q2 q3 q4 q5 hw0 hw1 hn0 hn1).mono fun e w' ⟨he, m, hw⟩ => ⟨by rw [he, hT], x + m, by rw [hw, drewN_two, Nat.add_assoc]⟩
theorem l00Rises_q {T : Bool} {n : Int} {v : Value} {xs : List Int} {B : Nat} {w : World} (hT : risesB n xs = T) (h : Sl w B v xs) (x : Nat) :
    Calls Tryz.prog 53 #[v, .int .i64 0, .int .i64 (n - 1)] (w.drewN x) fun e w'' => e = .returned (.bool T) ∧ ∃ m, w'' = w.drewN m :=
  (l00Rises_any (w := w.drewN x) (h.drewN _)).mono fun e w' ⟨he, m, hw⟩ => ⟨by rw [he, hT], x + m, by rw [hw, drewN_two]⟩
set_option maxRecDepth 100000 in
set_option maxHeartbeats 25600000 in
theorem l07Ok_any {f b c l d : Value} {m : Mac} {B g : Nat} {w : World} (h : SlM w B f b c l d m) (hB : B ≤ w.heap.size) (hx : w.heap[g]? = some (.cells #[.int .i64 m.wd, .int .i64 m.rk, f, b, c, l, d] 31)) (hsz : lenSS m.fr + lenSS m.bk + m.dr.length ≤ 5000000) :
    Calls Tryz.prog 19 #[.pointer (some ⟨g, 0, none⟩)] w fun e w' => e = .returned (.bool (okM m)) ∧ Below w.heap.size w w' := by
  obtain ⟨Af, kf, rfl, hlf, hmf, -⟩ := id h.fr
  obtain ⟨Ab, kb, rfl, hlb, hmb, -⟩ := id h.bk
  obtain ⟨Ac, kc, rfl, hlc, hmc, -⟩ := id h.cr.cells
  obtain ⟨Al, kl, rfl, hll, hml, -⟩ := id h.lp.cells
  obtain ⟨Ad, kd, rfl, hld, hmd, -⟩ := id h.dr
  unfold maxLen at hmf hmb hmd
  have hgl := heap_lt hx
  have H := Lib.hid h
  have X := Lib.hid hx
  cases h1 : inR m.wd 1 24
  · have HT : Hid (okM m = false) := Lib.hid (by simp [okM, hdB, h1])
    obtain ⟨⟨p0, p1, p2, p3, p4, p5, p6⟩, -, -⟩ := box7 X.out
    clear hx h
    go_enter Tryz.func19, Tryz.ntmps19
    go_wp2_with fail
    go_quiet (first | (go_at_call_of 50 (Go.Value.int .i64 m.wd); first | exact quiet_same_on (is_same h1 (l00In_any m.wd 1 24 _)) | exact quiet_same_at (is_same h1 (l00In_any m.wd 1 24 _)) | exact quiet_same (is_same h1 (l00In_any m.wd 1 24 _))))
    go_wp2
    go_ret
    exact ⟨ret_bool HT.out.symm, drewN_below _ _ _⟩
  · skip
    cases h2 : inR m.rk (-3) 3
    · have HT : Hid (okM m = false) := Lib.hid (by simp [okM, hdB, h2])
      obtain ⟨⟨p0, p1, p2, p3, p4, p5, p6⟩, -, -⟩ := box7 X.out
      clear hx h
      go_enter Tryz.func19, Tryz.ntmps19
      go_wp2_with fail
      go_quiet (first | (go_at_call_of 50 (Go.Value.int .i64 m.wd); first | exact quiet_same_on (is_same h1 (l00In_any m.wd 1 24 _)) | exact quiet_same_at (is_same h1 (l00In_any m.wd 1 24 _)) | exact quiet_same (is_same h1 (l00In_any m.wd 1 24 _))) | (go_at_call_of 50 (Go.Value.int .i64 m.rk); first | exact quiet_same_on (is_same h2 (l00In_any m.rk (-3) 3 _)) | exact quiet_same_at (is_same h2 (l00In_any m.rk (-3) 3 _)) | exact quiet_same (is_same h2 (l00In_any m.rk (-3) 3 _))))
      go_wp2
      go_ret
      exact ⟨ret_bool HT.out.symm, drewN_below _ _ _⟩
    · skip
      by_cases n3 : (m.fr.length : Int) = m.wd
      · have N3 := Lib.hid n3
        have t3 : ((m.fr.length : Int) != m.wd) = false := by simp [n3]
        clear n3
        by_cases n4 : (m.bk.length : Int) = m.wd
        · have N4 := Lib.hid n4
          have t4 : ((m.bk.length : Int) != m.wd) = false := by simp [n4]
          clear n4
          by_cases n5 : m.cr.length = 4
          · have N5 := Lib.hid n5
            have t5 : ((m.cr.length : Int) != 4) = false := by simp; omega
            clear n5
            by_cases n6 : m.lp.length ≤ 300
            · have N6 := Lib.hid n6
              have t6 : ¬ (300 : Int) < (m.lp.length : Int) := by omega
              clear n6
              obtain ⟨w1a, w1b⟩ := inR_iff.1 h1
              have hlp : (m.lp.length : Int) ≤ 300 := by have := N6.out; omega
              have HH : Hid (okM m = (crsB m && infsB m.wd m.lp && shortB m.fr && shortB m.bk && risesB m.lp.length m.dr && parsB m.lp.length (allM m))) := Lib.hid (by simp [okM, hdB, h1, h2, N3.out, N4.out, N5.out, N6.out])
              obtain ⟨⟨p0, p1, p2, p3, p4, p5, p6⟩, -, -⟩ := box7 X.out
              clear hx h
              go_enter Tryz.func19, Tryz.ntmps19
              go_wp2_with fail
              go_quiet (first | (go_at_call_of 50 (Go.Value.int .i64 m.wd); first | exact quiet_same_on (is_same h1 (l00In_any m.wd 1 24 _)) | exact quiet_same_at (is_same h1 (l00In_any m.wd 1 24 _)) | exact quiet_same (is_same h1 (l00In_any m.wd 1 24 _))) | (go_at_call_of 50 (Go.Value.int .i64 m.rk); first | exact quiet_same_on (is_same h2 (l00In_any m.rk (-3) 3 _)) | exact quiet_same_at (is_same h2 (l00In_any m.rk (-3) 3 _)) | exact quiet_same (is_same h2 (l00In_any m.rk (-3) 3 _))))
              go_wp2_with fail
              clear p0 p1 p2 p3 p4 p5 p6
              go_loopw [3] (fun i wr => ∃ k : Nat, k ≤ m.cr.length ∧ i = .int .i64 k ∧ (∀ j, j < k → crOk m.wd (gc m.cr j) = true) ∧ Below w.heap.size w wr) (fun i _ => m.cr.length - (intOf i).toNat)
              case atStart => exact ⟨0, Nat.zero_le _, rfl, fun j h => absurd h (Nat.not_lt_zero _), drewN_below _ _ _⟩
              case round =>
                obtain ⟨k, hk, rfl, hgood, hb⟩ := hrel
                have HG := Lib.hid hgood
                have HB := Lib.hid hb
                have X2 := Lib.hid (keep_fwd hb X.out)
                have G := Lib.hid (H.out.below hb hB)
                have hz := hb.size
                clear hgood hb
                obtain ⟨⟨p0, p1, p2, p3, p4, p5, p6⟩, -, hgr⟩ := box7 X2.out
                by_cases hlt : k < m.cr.length
                · obtain ⟨Ax, kx, ex, hlx, hmx, hcx⟩ := SlK.cells G.out.cr
                  simp only [Value.slice.injEq] at ex
                  obtain ⟨rfl, -, rfl⟩ := ex
                  obtain ⟨b1, o1, rfl, hb1, hcell1⟩ := hcx (by omega)
                  obtain ⟨r0, r1⟩ := hcell1 k hlt
                  clear hcell1 hcx
                  have hbw : b1 < wr.heap.size := by omega
                  have HPB : Hid (crOk m.wd (gc m.cr k) = (inR (gc m.cr k).2 (-3) (m.wd + 3) && ((gc m.cr k).1 || (gc m.cr k).2 == 0))) := Lib.hid rfl
                  have HNX : Hid (crOk m.wd (gc m.cr k) = true → ∀ j, j < k + 1 → crOk m.wd (gc m.cr j) = true) := Lib.hid fun hx j hj => by
                      by_cases hjk : j < k
                      · exact HG.out j hjk
                      · obtain rfl : j = k := by omega
                        exact hx
                  have HNO : Hid (crOk m.wd (gc m.cr k) = false → okM m = false) := Lib.hid fun hx => by rw [HH.out, crsB_no hlt hx]; rfl
                  generalize (gc m.cr k).1 = x1 at *
                  generalize (gc m.cr k).2 = x2 at *
                  cases hi : inR x2 (-3) (m.wd + 3)
                  · have HT := Lib.hid (HNO.out (by rw [HPB.out, hi]; rfl))
                    go_wp2_with fail
                    go_quiet (first | (go_at_call 50; first | exact quiet_same_on (is_same hi (l00In_any _ _ _ _)) | exact quiet_same_at (is_same hi (l00In_any _ _ _ _)) | exact quiet_same (is_same hi (l00In_any _ _ _ _))))
                    go_wp2
                    go_ret
                    exact ⟨ret_bool HT.out.symm, HB.out.trans ((below_drewN (al1 wr _) _).mono hz)⟩
                  · cases hx1 : x1
                    · by_cases hx2 : x2 = 0
                      · subst hx2
                        have HX := Lib.hid (HNX.out (by rw [HPB.out, hi, hx1]; rfl))
                        subst hx1
                        go_wp2_with fail
                        go_quiet (first | (go_at_call 50; first | exact quiet_same_on (is_same hi (l00In_any _ _ _ _)) | exact quiet_same_at (is_same hi (l00In_any _ _ _ _)) | exact quiet_same (is_same hi (l00In_any _ _ _ _))))
                        go_wp2
                        go_roundw
                        case rel => exact ⟨k + 1, by omega, by go_num, HX.out, HB.out.trans ((below_drewN (al1 wr _) _).mono hz)⟩
                        case measure => simp [intOf]; omega
                      · have z2 : (x2 != 0) = true := by simp [hx2]
                        have HT := Lib.hid (HNO.out (by rw [HPB.out, hi, hx1]; simp [hx2]))
                        subst hx1
                        clear hx2
                        go_wp2_with fail
                        go_quiet (first | (go_at_call 50; first | exact quiet_same_on (is_same hi (l00In_any _ _ _ _)) | exact quiet_same_at (is_same hi (l00In_any _ _ _ _)) | exact quiet_same (is_same hi (l00In_any _ _ _ _))))
                        go_wp2
                        go_ret
                        exact ⟨ret_bool HT.out.symm, HB.out.trans ((below_drewN (al1 wr _) _).mono hz)⟩
                    · have HX := Lib.hid (HNX.out (by rw [HPB.out, hi, hx1]; rfl))
                      subst hx1
                      go_wp2_with fail
                      go_quiet (first | (go_at_call 50; first | exact quiet_same_on (is_same hi (l00In_any _ _ _ _)) | exact quiet_same_at (is_same hi (l00In_any _ _ _ _)) | exact quiet_same (is_same hi (l00In_any _ _ _ _))))
                      go_wp2
                      go_roundw
                      case rel => exact ⟨k + 1, by omega, by go_num, HX.out, HB.out.trans ((below_drewN (al1 wr _) _).mono hz)⟩
                      case measure => simp [intOf]; omega
                · have HC := Lib.hid (crsB_yes (m := m) fun j hj => HG.out j (by omega))
                  obtain ⟨W, hWW⟩ : ∃ x, x = wr := ⟨_, rfl⟩
                  subst hWW
                  have HH2 : Hid (okM m = (infsB m.wd m.lp && shortB m.fr && shortB m.bk && risesB m.lp.length m.dr && parsB m.lp.length (allM m))) := Lib.hid (by rw [HH.out, HC.out]; rfl)
                  clear HG HH HC
                  go_wp2_with fail
                  go_loopw [5] (fun i wr => ∃ k : Nat, k ≤ m.lp.length ∧ i = .int .i64 k ∧ (∀ j, j < k → infI m.wd m.lp j = true) ∧ ∃ n, wr = W.drewN n) (fun i _ => m.lp.length - (intOf i).toNat)
                  case atStart => exact ⟨0, Nat.zero_le _, rfl, fun j h => absurd h (Nat.not_lt_zero _), 0, rfl⟩
                  case round =>
                    obtain ⟨k, hk, rfl, hgood, n, rfl⟩ := hrel
                    have HG := Lib.hid hgood
                    clear hgood
                    by_cases hlt : k < m.lp.length
                    · obtain ⟨Ax, kx, ex, hlx, hmx, hcx⟩ := SlF.cells G.out.lp
                      simp only [Value.slice.injEq] at ex
                      obtain ⟨rfl, -, rfl⟩ := ex
                      obtain ⟨b1, o1, rfl, hb1, hcell1⟩ := hcx (by omega)
                      obtain ⟨hn, u, r5, s5⟩ := hcell1 k hlt
                      obtain ⟨r0, r1, r2, r3, r4⟩ := five_of hn
                      clear hcell1 hcx hn
                      have hk300 : (k : Int) ≤ 300 := by omega
                      have HPB : Hid (infI m.wd m.lp k = infB m.wd k (gi (gl m.lp k) 0) (gi (gl m.lp k) 1) (gi (gl m.lp k) 2) (gi (gl m.lp k) 3) (gi (gl m.lp k) 4) ((gl m.lp k).drop 5)) := Lib.hid rfl
                      have HNX : Hid (infI m.wd m.lp k = true → ∀ j, j < k + 1 → infI m.wd m.lp j = true) := Lib.hid fun hx j hj => by
                          by_cases hjk : j < k
                          · exact HG.out j hjk
                          · obtain rfl : j = k := by omega
                            exact hx
                      have HNO : Hid (infI m.wd m.lp k = false → okM m = false) := Lib.hid fun hx => by rw [HH2.out, infsB_no hlt hx]; rfl
                      generalize gi (gl m.lp k) 0 = x0 at *
                      generalize gi (gl m.lp k) 1 = x1 at *
                      generalize gi (gl m.lp k) 2 = x2 at *
                      generalize gi (gl m.lp k) 3 = x3 at *
                      generalize gi (gl m.lp k) 4 = x4 at *
                      generalize (gl m.lp k).drop 5 = ps at *
                      cases hT : infB m.wd k x0 x1 x2 x3 x4 ps
                      · have HT := Lib.hid (HNO.out (by rw [HPB.out, hT]))
                        go_wp2_with fail
                        go_quiet (first | (go_at_call 51; exact l07Info_q hT s5 r0 r1 r2 r3 r4 r5 w1a w1b (by omega) hk300 _ _))
                        go_wp2
                        go_ret
                        exact ⟨ret_bool HT.out.symm, HB.out.trans ((below_drewN (drewN_below _ _ _) _).mono hz)⟩
                      · have HX := Lib.hid (HNX.out (by rw [HPB.out, hT]))
                        go_wp2_with fail
                        go_quiet (first | (go_at_call 51; exact l07Info_q hT s5 r0 r1 r2 r3 r4 r5 w1a w1b (by omega) hk300 _ _))
                        go_wp2
                        go_roundw
                        case rel => exact ⟨k + 1, by omega, by go_num, HX.out, _, rfl⟩
                        case measure => simp [intOf]; omega
                    · have HC := Lib.hid (infsB_yes (wd := m.wd) (L := m.lp) fun j hj => HG.out j (by omega))
                      have HH3 : Hid (okM m = (shortB m.fr && shortB m.bk && risesB m.lp.length m.dr && parsB m.lp.length (allM m))) := Lib.hid (by rw [HH2.out, HC.out]; rfl)
                      clear HG HH2 HC
                      have hbW : Below w.heap.size w (W.drewN n) := HB.out.trans ((drewN_below W W.heap.size n).mono hz)
                      have hzW : w.heap.size ≤ (W.drewN n).heap.size := hbW.size
                      have G2 := Lib.hid (H.out.below hbW hB)
                      have HB2 := Lib.hid hbW
                      clear hbW G HB
                      go_wp2_with fail
                      refine (l07Lists_any G2.out.fr (Nat.le_trans hB hzW) (by omega)).mono ?_
                      rintro e w2 ⟨ra, rfl, hoa, hq⟩
                      obtain ⟨Ra, ca, rfl, -⟩ := id (hoa.sl (Nat.le_refl _))
                      have hb2 := HB2.out.trans (hq.mono hzW)
                      have hz2 := hb2.size
                      have G3 := Lib.hid (H.out.below hb2 hB)
                      have HB3 := Lib.hid hb2
                      have HOA := Lib.hid (hoa.mono hzW (Nat.le_refl _))
                      clear hq hoa hb2 p0 p1 p2 p3 p4 p5 p6 G2 HB2
                      obtain ⟨⟨p0, p1, p2, p3, p4, p5, p6⟩, -, -⟩ := box7 (keep_fwd HB3.out X.out)
                      go_wp2_with fail
                      refine (l07Lists_any G3.out.bk (Nat.le_trans hB hz2) (by omega)).mono ?_
                      rintro e w3 ⟨rb, rfl, hob, hq⟩
                      obtain ⟨Rb, cb, rfl, -⟩ := id (hob.sl (Nat.le_refl _))
                      have hb3 := HB3.out.trans (hq.mono hz2)
                      have hz3 := hb3.size
                      have G4 := Lib.hid (H.out.below hb3 hB)
                      have HB4 := Lib.hid hb3
                      have HOA2 := Lib.hid (HOA.out.below hq (Nat.le_refl _))
                      have HOB := Lib.hid hob
                      have hz23 := hq.size
                      clear hq hob hb3 p0 p1 p2 p3 p4 p5 p6 G3 HB3 HOA
                      obtain ⟨⟨p0, p1, p2, p3, p4, p5, p6⟩, -, -⟩ := box7 (keep_fwd HB4.out X.out)
                      have HLA := Lib.hid (show (lstR m.fr).length ≤ lenSS m.fr by unfold lstR; split; (rw [flatSS_len]; exact Nat.le_refl _); simp)
                      have HLB := Lib.hid (show (lstR m.bk).length ≤ lenSS m.bk by unfold lstR; split; (rw [flatSS_len]; exact Nat.le_refl _); simp)
                      cases hsa : shortB m.fr
                      · have HT := Lib.hid (show okM m = false by rw [HH3.out, hsa]; rfl)
                        go_wp2_with fail
                        go_quiet (fail)
                        go_wp2
                        go_ret
                        exact ⟨ret_bool HT.out.symm, below_drewN HB4.out _⟩
                      · skip
                        cases hsb : shortB m.bk
                        · have HT := Lib.hid (show okM m = false by rw [HH3.out, hsa, hsb]; rfl)
                          go_wp2_with fail
                          go_quiet (fail)
                          go_wp2
                          go_ret
                          exact ⟨ret_bool HT.out.symm, below_drewN HB4.out _⟩
                        · skip
                          cases hr : risesB m.lp.length m.dr
                          · have HT := Lib.hid (show okM m = false by rw [HH3.out, hsa, hsb, hr]; rfl)
                            go_wp2_with fail
                            go_quiet (first | (go_at_call 53; exact l00Rises_q hr G4.out.dr _))
                            go_wp2
                            go_ret
                            exact ⟨ret_bool HT.out.symm, below_drewN HB4.out _⟩
                          · have HH4 : Hid (okM m = parsB m.lp.length (allM m)) := Lib.hid (by rw [HH3.out, hsa, hsb, hr]; rfl)
                            have HAL : Hid (lstR m.fr ++ lstR m.bk ++ m.dr = allM m) := Lib.hid (by rw [lstR_yes hsa, lstR_yes hsb]; rfl)
                            clear HH3
                            go_wp2_with fail
                            go_quiet (first | (go_at_call 53; exact l00Rises_q hr G4.out.dr _))
                            go_wp2_with fail
                            have hnb : ∀ (n : Nat), Below w.heap.size w ((w3.drewN n).drew) := fun n => (below_drewN HB4.out n).drew
                            have HNB := Lib.hid hnb
                            clear hnb
                            have HK := Lib.hid (fun w' (hw : Below w.heap.size w w') => show w'.cell? ⟨g, 6, none⟩ = some (.slice Ad m.dr.length kd) ∧ Below w.heap.size w w' from ⟨by rw [hw.cell hgl]; exact (box7 X.out).1.2.2.2.2.2.2, hw⟩)
                            go_region_held3 (fun w' => w'.cell? ⟨g, 6, none⟩ = some (.slice Ad m.dr.length kd) ∧ Below w.heap.size w w') (exact HK.out _ (by first | assumption | exact HNB.out _ | exact below_drewN HB4.out _ | exact (below_drewN (below_drewN HB4.out _) _).drew))
                              (first
                                | (refine step_append_list rfl _ _ rfl _ w.heap.size w2.heap.size w3.heap.size (.slice Ra (lstR m.fr).length ca) (.slice Rb (lstR m.bk).length cb) (lstR m.fr) (lstR m.bk) rfl rfl (Ow.same HOA2.out rfl) (Sl.same (HOB.out.sl (Nat.le_refl _)) rfl) hz3 (by have := HLA.out; have := HLB.out; omega) ?_; intro v5 w5 ho5 hg5; obtain ⟨A5, c5, rfl, -⟩ := id (ho5.sl (Nat.le_refl _)); have hb5 : Below w.heap.size w w5 := Below.trans (by first | exact HNB.out _ | exact below_drewN HB4.out _ | exact (below_drewN (below_drewN HB4.out _) _).drew | exact HB4.out) (grown_of hg5 (Ow.same HOA2.out rfl) (Nat.le_refl _) hz3))
                                | (refine step_append_list rfl _ _ rfl w5 w.heap.size w5.heap.size B _ _ (lstR m.fr ++ lstR m.bk) m.dr rfl rfl ho5 (H.out.dr.below hb5 hB) hb5.size (by have := HLA.out; have := HLB.out; rw [List.length_append]; omega) ?_; intro v6 w6 ho6 hg6; obtain ⟨A6, c6, rfl, -⟩ := id (ho6.sl (Nat.le_refl _)); have hb6 : Below w.heap.size w w6 := Below.trans hb5 (ho5.grown hg6 (Nat.le_refl _) hb5.size)))
                            have hsum : (lstR m.fr).length + ((lstR m.bk).length + m.dr.length) = (allM m).length := by rw [← HAL.out]; simp
                            rw [HAL.out] at ho6
                            try simp only [List.length_append, Nat.add_assoc]
                            rw [hsum]
                            clear hsum
                            have HB6 := Lib.hid hb6
                            have S6 := Lib.hid (ho6.sl (B := w6.heap.size) (Nat.le_refl _))
                            have hz6 := hb6.size
                            clear hb6 ho6 hg6 ho5 hg5 hb5 HK HNB p0 p1 p2 p3 p4 p5 p6
                            obtain ⟨⟨-, -, -, -, -, p5, -⟩, -, -⟩ := box7 (keep_fwd HB6.out X.out)
                            generalize hall : allM m = all at *
                            have HALL := Lib.hid hall
                            clear hall
                            go_wp2_with fail
                            go_loopw [11] (fun i wr => ∃ k : Nat, k ≤ all.length ∧ i = .int .i64 k ∧ (∀ j, j < k → parB m.lp.length all j = true) ∧ ∃ n, wr = w6.drewN n) (fun i _ => all.length - (intOf i).toNat)
                            case atStart => exact ⟨0, Nat.zero_le _, rfl, fun j h => absurd h (Nat.not_lt_zero _), 0, rfl⟩
                            case round =>
                              obtain ⟨k, hk, rfl, hgood, n, rfl⟩ := hrel
                              have HG := Lib.hid hgood
                              clear hgood
                              by_cases hlt : k < all.length
                              · obtain ⟨A9, c9, e9, hl9, hm9, -, hcell⟩ := id S6.out
                                unfold maxLen at hm9
                                simp only [Value.slice.injEq] at e9
                                obtain ⟨rfl, -, rfl⟩ := e9
                                obtain ⟨b1, off, rfl, hbB, hcc⟩ := hcell (by omega)
                                have r1 := hcc k hlt
                                clear hcell hcc
                                have hs2 := sl_pre S6.out k hk
                                have HPB : Hid (parB m.lp.length all k = (inR (gi all k) 0 ((m.lp.length : Int) - 1) && !hasI (all.take k) (gi all k))) := Lib.hid rfl
                                have HNX : Hid (parB m.lp.length all k = true → ∀ j, j < k + 1 → parB m.lp.length all j = true) := Lib.hid fun hx j hj => by
                                    by_cases hjk : j < k
                                    · exact HG.out j hjk
                                    · obtain rfl : j = k := by omega
                                      exact hx
                                have HNO : Hid (parB m.lp.length all k = false → okM m = false) := Lib.hid fun hx => by rw [HH4.out, parsB_no hlt hx]
                                generalize gi all k = x at *
                                generalize all.take k = tk at *
                                have hwr : IntKind.i64.wrap ((m.lp.length : Int) - 1) = (m.lp.length : Int) - 1 := IntWalk.i64_in _ (by omega)
                                cases hi : inR x 0 ((m.lp.length : Int) - 1)
                                · have HT := Lib.hid (HNO.out (by rw [HPB.out, hi]; rfl))
                                  go_wp2_with fail
                                  go_quiet (first | (go_at_call 50; first | exact quiet_same_on (is_same hi (l00In_any _ _ _ _)) | exact quiet_same_at (is_same hi (l00In_any _ _ _ _)) | exact quiet_same (is_same hi (l00In_any _ _ _ _))))
                                  clear hwr
                                  go_wp2
                                  go_ret
                                  exact ⟨ret_bool HT.out.symm, HB6.out.trans ((below_drewN (drewN_below _ _ _) _).mono hz6)⟩
                                · skip
                                  cases hh : hasI tk x
                                  · have HX := Lib.hid (HNX.out (by rw [HPB.out, hi, hh]; rfl))
                                    go_wp2_with fail
                                    go_quiet (first | (go_at_call 50; first | exact quiet_same_on (is_same hi (l00In_any _ _ _ _)) | exact quiet_same_at (is_same hi (l00In_any _ _ _ _)) | exact quiet_same (is_same hi (l00In_any _ _ _ _))) | (go_at_call 54; first | exact quiet_same_on (is_same hh (l00Has_any _ _ _ _ _ (hs2.drewN _))) | exact quiet_same_at (is_same hh (l00Has_any _ _ _ _ _ (hs2.drewN _))) | exact quiet_same (is_same hh (l00Has_any _ _ _ _ _ (hs2.drewN _)))))
                                    clear hwr
                                    go_wp2
                                    go_roundw
                                    case rel => exact ⟨k + 1, by omega, by go_num, HX.out, _, rfl⟩
                                    case measure => simp [intOf]; omega
                                  · have HT := Lib.hid (HNO.out (by rw [HPB.out, hi, hh]; rfl))
                                    go_wp2_with fail
                                    go_quiet (first | (go_at_call 50; first | exact quiet_same_on (is_same hi (l00In_any _ _ _ _)) | exact quiet_same_at (is_same hi (l00In_any _ _ _ _)) | exact quiet_same (is_same hi (l00In_any _ _ _ _))) | (go_at_call 54; first | exact quiet_same_on (is_same hh (l00Has_any _ _ _ _ _ (hs2.drewN _))) | exact quiet_same_at (is_same hh (l00Has_any _ _ _ _ _ (hs2.drewN _))) | exact quiet_same (is_same hh (l00Has_any _ _ _ _ _ (hs2.drewN _)))))
                                    clear hwr
                                    go_wp2
                                    go_ret
                                    exact ⟨ret_bool HT.out.symm, HB6.out.trans ((below_drewN (drewN_below _ _ _) _).mono hz6)⟩
                              · have HT : Hid (okM m = true) := Lib.hid (by rw [HH4.out, parsB_yes fun j hj => HG.out j (by omega)])
                                go_wp2
                                go_ret
                                exact ⟨ret_bool HT.out.symm, HB6.out.trans ((drewN_below w6 _ n).mono hz6)⟩
            · have HT : Hid (okM m = false) := Lib.hid (by simp [okM, hdB, n6])
              have t6 : (300 : Int) < (m.lp.length : Int) := by omega
              clear n6
              obtain ⟨⟨p0, p1, p2, p3, p4, p5, p6⟩, -, -⟩ := box7 X.out
              clear hx h
              go_enter Tryz.func19, Tryz.ntmps19
              go_wp2_with fail
              go_quiet (first | (go_at_call_of 50 (Go.Value.int .i64 m.wd); first | exact quiet_same_on (is_same h1 (l00In_any m.wd 1 24 _)) | exact quiet_same_at (is_same h1 (l00In_any m.wd 1 24 _)) | exact quiet_same (is_same h1 (l00In_any m.wd 1 24 _))) | (go_at_call_of 50 (Go.Value.int .i64 m.rk); first | exact quiet_same_on (is_same h2 (l00In_any m.rk (-3) 3 _)) | exact quiet_same_at (is_same h2 (l00In_any m.rk (-3) 3 _)) | exact quiet_same (is_same h2 (l00In_any m.rk (-3) 3 _))))
              go_wp2
              go_ret
              exact ⟨ret_bool HT.out.symm, drewN_below _ _ _⟩
          · have HT : Hid (okM m = false) := Lib.hid (by simp [okM, hdB, n5])
            have t5 : ((m.cr.length : Int) != 4) = true := by simp; omega
            clear n5
            obtain ⟨⟨p0, p1, p2, p3, p4, p5, p6⟩, -, -⟩ := box7 X.out
            clear hx h
            go_enter Tryz.func19, Tryz.ntmps19
            go_wp2_with fail
            go_quiet (first | (go_at_call_of 50 (Go.Value.int .i64 m.wd); first | exact quiet_same_on (is_same h1 (l00In_any m.wd 1 24 _)) | exact quiet_same_at (is_same h1 (l00In_any m.wd 1 24 _)) | exact quiet_same (is_same h1 (l00In_any m.wd 1 24 _))) | (go_at_call_of 50 (Go.Value.int .i64 m.rk); first | exact quiet_same_on (is_same h2 (l00In_any m.rk (-3) 3 _)) | exact quiet_same_at (is_same h2 (l00In_any m.rk (-3) 3 _)) | exact quiet_same (is_same h2 (l00In_any m.rk (-3) 3 _))))
            go_wp2
            go_ret
            exact ⟨ret_bool HT.out.symm, drewN_below _ _ _⟩
        · have HT : Hid (okM m = false) := Lib.hid (by simp [okM, hdB, n4])
          have t4 : ((m.bk.length : Int) != m.wd) = true := by simp [n4]
          clear n4
          obtain ⟨⟨p0, p1, p2, p3, p4, p5, p6⟩, -, -⟩ := box7 X.out
          clear hx h
          go_enter Tryz.func19, Tryz.ntmps19
          go_wp2_with fail
          go_quiet (first | (go_at_call_of 50 (Go.Value.int .i64 m.wd); first | exact quiet_same_on (is_same h1 (l00In_any m.wd 1 24 _)) | exact quiet_same_at (is_same h1 (l00In_any m.wd 1 24 _)) | exact quiet_same (is_same h1 (l00In_any m.wd 1 24 _))) | (go_at_call_of 50 (Go.Value.int .i64 m.rk); first | exact quiet_same_on (is_same h2 (l00In_any m.rk (-3) 3 _)) | exact quiet_same_at (is_same h2 (l00In_any m.rk (-3) 3 _)) | exact quiet_same (is_same h2 (l00In_any m.rk (-3) 3 _))))
          go_wp2
          go_ret
          exact ⟨ret_bool HT.out.symm, drewN_below _ _ _⟩
      · have HT : Hid (okM m = false) := Lib.hid (by simp [okM, hdB, n3])
        have t3 : ((m.fr.length : Int) != m.wd) = true := by simp [n3]
        clear n3
        obtain ⟨⟨p0, p1, p2, p3, p4, p5, p6⟩, -, -⟩ := box7 X.out
        clear hx h
        go_enter Tryz.func19, Tryz.ntmps19
        go_wp2_with fail
        go_quiet (first | (go_at_call_of 50 (Go.Value.int .i64 m.wd); first | exact quiet_same_on (is_same h1 (l00In_any m.wd 1 24 _)) | exact quiet_same_at (is_same h1 (l00In_any m.wd 1 24 _)) | exact quiet_same (is_same h1 (l00In_any m.wd 1 24 _))) | (go_at_call_of 50 (Go.Value.int .i64 m.rk); first | exact quiet_same_on (is_same h2 (l00In_any m.rk (-3) 3 _)) | exact quiet_same_at (is_same h2 (l00In_any m.rk (-3) 3 _)) | exact quiet_same (is_same h2 (l00In_any m.rk (-3) 3 _))))
        go_wp2
        go_ret
        exact ⟨ret_bool HT.out.symm, drewN_below _ _ _⟩
end Go.Proofs.YtgmppfhokfifgaaGreat
/-
  Contracts: the reference's ValidMachine, l07Place, PlaceOf.
-/
namespace Go.Proofs.YtgmppfhokfifgaaGreat
set_option maxRecDepth 10000
open Go.RowKit

def smallM (m : Mac) : Prop := lenSS m.fr + lenSS m.bk + m.dr.length ≤ 5000000
set_option maxHeartbeats 1600000 in
theorem spec_ValidMachine_any {f b c l d : Value} {m : Mac} {B : Nat} {w : World} (h : SlM w B f b c l d m) (hB : B ≤ w.heap.size) (hs : smallM m) :
    Calls Tryz.prog 7 #[.agg #[.int .i64 m.wd, .int .i64 m.rk, f, b, c, l, d]] w fun e w' => e = .returned (.bool (okM m)) ∧ Below w.heap.size w w' := by
  have ha := al1 w (.cells #[.int .i64 m.wd, .int .i64 m.rk, f, b, c, l, d] 31)
  have H := Lib.hid (h.below ha hB)
  have HA := Lib.hid ha
  have X := Lib.hid (alloc_at_ w (.cells #[.int .i64 m.wd, .int .i64 m.rk, f, b, c, l, d] 31))
  clear ha h
  go_enter Tryz.func7, Tryz.ntmps7
  go_wp2_with (go_at_call 19; (refine (l07Ok_any H.out (by simp; omega) X.out hs).mono ?_); rintro e w3 ⟨rfl, hb3⟩)
  go_ret
  exact ⟨rfl, HA.out.trans (hb3.mono (by simp))⟩
set_option maxHeartbeats 800000 in
theorem l07Place_any (b a r : Int) (w : World) (h1 : 0 ≤ a ∧ a ≤ 23) (h2 : -3 ≤ r ∧ r ≤ 3) : Calls Tryz.prog 63 #[.agg #[.int .i64 b, .int .i64 a], .int .i64 r] w fun e w' => e = .returned (.int .i64 (plc b a r)) ∧ Below w.heap.size w w' := by
  obtain ⟨a0, a1⟩ := h1
  obtain ⟨r0, r1⟩ := h2
  by_cases hb : b = 2
  · have HT := Lib.hid (plc_yes (a := a) (r := r) hb)
    subst hb
    go_enter Tryz.func63, Tryz.ntmps63
    go_wp2
    go_ret
    exact ⟨ret_int HT.out.symm, al1 _ _⟩
  · have hbb : (b == 2) = false := by simp [hb]
    have HT := Lib.hid (plc_no (a := a) (r := r) hb)
    clear hb
    go_enter Tryz.func63, Tryz.ntmps63
    go_wp2
    go_ret
    exact ⟨ret_int HT.out.symm, al1 _ _⟩
end Go.Proofs.YtgmppfhokfifgaaGreat
/-
  Contracts: LoopsOn of the program and of the reference.
-/
namespace Go.Proofs.YtgmppfhokfifgaaGreat
set_option maxRecDepth 10000
open Go.RowKit

/-- The bed of a machine in memory, and the loops on one of its needles. -/
theorem SlM.bed {w : World} {B : Nat} {f b c l d : Value} {m : Mac} (h : SlM w B f b c l d m) (bed : Int) : SlS w B (if bed = 2 then b else f) (m.sd bed) := by
  unfold Mac.sd; split
  · exact h.bk
  · exact h.fr
theorem SlM.at_ {w : World} {B : Nat} {f b c l d : Value} {m : Mac} (h : SlM w B f b c l d m) {bed a : Int} (ha : a.toNat < (m.sd bed).length) :
    ∃ p o n cap u, (if bed = 2 then b else f) = .slice (some ⟨p, o, none⟩) n cap ∧ n = (m.sd bed).length ∧ w.cell? ⟨p, o + a.toNat, none⟩ = some u ∧ Sl w B u (m.on bed a) := by
  obtain ⟨A, cap, e, h2, h3, h4, h5⟩ := h.bed bed
  obtain ⟨p, o, rfl, hb, hc⟩ := h5 (by omega)
  obtain ⟨u, hu, hs⟩ := hc a.toNat ha
  exact ⟨p, o, _, cap, u, e, rfl, hu, hs⟩
set_option maxHeartbeats 800000 in
theorem l07Bed_any {x0 x1 f b x4 x5 x6 : Value} {t : TypeId} {g : Nat} {bed : Int} {w : World} (hx : w.heap[g]? = some (.cells #[x0, x1, f, b, x4, x5, x6] t)) (hb : bed = 1 ∨ bed = 2) :
    Calls Tryz.prog 87 #[.pointer (some ⟨g, 0, none⟩), .int .i64 bed] w fun e w' => e = .returned (if bed = 2 then b else f) ∧ w = w' := by
  obtain ⟨q2, q3, hg⟩ := cellBed hx
  clear hx
  rcases hb with rfl | rfl
  · rw [if_neg (by omega)]
    go_enter Tryz.func87, Tryz.ntmps87
    go_wp2
    go_ret
    exact ⟨rfl, rfl⟩
  · rw [if_pos rfl]
    go_enter Tryz.func87, Tryz.ntmps87
    go_wp2
    go_ret
    exact ⟨rfl, rfl⟩
set_option maxHeartbeats 1600000 in
theorem l07On_any {x0 x1 f b x4 x5 x6 : Value} {t : TypeId} {g : Nat} {bed : Int} {p o n c k : Nat} {u : Value} {w : World} (hx : w.heap[g]? = some (.cells #[x0, x1, f, b, x4, x5, x6] t)) (hb : bed = 1 ∨ bed = 2) (hk : k < n)
    (hs : (if bed = 2 then b else f) = .slice (some ⟨p, o, none⟩) n c) (hu : w.cell? ⟨p, o + k, none⟩ = some u) :
    Calls Tryz.prog 72 #[.pointer (some ⟨g, 0, none⟩), .agg #[.int .i64 bed, .int .i64 k]] w fun e w' => e = .returned u ∧ Below w.heap.size w w' := by
  have hlt := block_lt_of_cell hu
  have HX0 := Lib.hid hx
  have HU0 := Lib.hid hu
  have HB := Lib.hid hb
  have HS := Lib.hid hs
  clear hx hu hs hb
  go_enter Tryz.func72, Tryz.ntmps72
  go_wp2_with fail
  generalize hW : w.alloc (.cells #[.int .i64 bed, .int .i64 k] 36) = W
  have ha : Below w.heap.size w W := by rw [← hW]; exact al1 w _
  have x1 : W.heap[w.heap.size]? = some (.cells #[.int .i64 bed, .int .i64 k] 36) := by rw [← hW]; exact alloc_at_ w _
  have hu1 := (ha.cell (p := ⟨p, o + k, none⟩) hlt).trans HU0.out
  have HX := Lib.hid (keep_fwd ha HX0.out)
  have HA := Lib.hid ha
  obtain ⟨y0, y1, -, -, -⟩ := box2f x1
  clear x1 ha hW
  have hs : (if bed = 2 then b else f) = .slice (some ⟨p, o, none⟩) n c := HS.out
  have hBed : ∀ W', W'.heap[g]? = W.heap[g]? → Calls Tryz.prog 87 #[.pointer (some ⟨g, 0, none⟩), .int .i64 bed] W' fun e w' => e = .returned (.slice (some ⟨p, o, none⟩) n c) ∧ W' = w' := fun W' h => by
    rw [← hs]; exact l07Bed_any (h.trans HX.out) HB.out
  have HBED := Lib.hid hBed
  clear hs hBed
  go_quiet (first | (go_at_call 87; first | exact quiet_same_on (HBED.out _ rfl) | exact quiet_same_at (HBED.out _ rfl) | exact quiet_same (HBED.out _ rfl)))
  go_wp2_with fail
  go_ret
  exact ⟨rfl, below_drewN HA.out _⟩
end Go.Proofs.YtgmppfhokfifgaaGreat
