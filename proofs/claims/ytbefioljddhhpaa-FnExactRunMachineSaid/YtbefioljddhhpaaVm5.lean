/-
  Contract: the program's areApart (each loop's number occurs once, on needles and dropped).
-/
import Derived.Test.YtbefioljddhhpaaOkm
import Derived.Deep.RegionHeld3
namespace Go.Proofs.Ytbefioljddhhpaa
set_option maxRecDepth 10000
open Go.RowKit

/-- A row of Booleans of the call's own. -/
def OwB (w : World) (lo hi : Nat) (v : Value) (bs : List Bool) : Prop := OwR 4 1 w lo hi v bs.length (bs.map Value.bool)
theorem bool_info : (Try.prog.info? 4).map (fun i => (i.zero, i.size, i.bytes)) = some (some (.bool false), 1, 1) := by kernel_rfl
def gb (bs : List Bool) (k : Nat) : Bool := bs.getD k false
theorem OwB.set_ {w : World} {lo hi : Nat} {v : Value} {bs : List Bool} (h : OwB w lo hi v bs) (k : Nat) (hk : k < bs.length) (x : Bool) :
    ∃ g cap, v = .slice (some ⟨g, 0, none⟩) bs.length cap ∧ lo ≤ g ∧ g < hi ∧ w.cell? ⟨g, k, none⟩ = some (.bool (gb bs k)) ∧ w.frozen? ⟨g, k, none⟩ = false ∧
      OwB (w.setCell ⟨g, k, none⟩ (.bool x)) lo hi v (bs.set k x) ∧ Chg lo hi w (w.setCell ⟨g, k, none⟩ (.bool x)) := by
  obtain ⟨h1, h2⟩ := h
  rcases h1.2 with ⟨rfl, h0⟩ | ⟨g, cap, cur, rfl, hlo, hh, r⟩
  · omega
  · have hg := h2 g rfl
    have hs := h1.stored k (.bool x)
    refine ⟨g, cap, rfl, hlo, hg, ?_, h1.frozenAt k, ⟨?_, h2⟩, ⟨rfl, rfl, rfl, by simp [World.setCell], fun j _ hj2 => Below.heap_setCell _ _ _ _ (by simp only; omega)⟩⟩
    · rw [h1.cellAt k (by omega)]
      simp [gb, List.getD, hk]
    · unfold OwB at *
      rw [List.length_set, List.map_set]
      exact hs.1
/-- The numbers that have been seen. -/
def seenB (n : Nat) (P : List Int) : List Bool := (List.range n).map fun (k : Nat) => hasI P k
theorem seenB_len (n : Nat) (P : List Int) : (seenB n P).length = n := by simp [seenB]
theorem seenB_get {n : Nat} {P : List Int} {x : Nat} (h : x < n) : gb (seenB n P) x = hasI P x := by simp [gb, seenB, List.getD, h]
theorem seenB_nil (n : Nat) : seenB n [] = List.replicate n false := by
  apply List.ext_getElem <;> simp [seenB, hasI]
theorem seenB_set {n : Nat} {P : List Int} {x : Nat} : (seenB n P).set x true = seenB n (P ++ [(x : Int)]) := by
  apply List.ext_getElem
  · simp [seenB]
  · intro i h1 h2
    rw [List.getElem_set]
    simp only [seenB, List.getElem_map, List.getElem_range, hasI, List.any_append, List.any_cons, List.any_nil, Bool.or_false]
    split
    · rename_i e; subst e; simp
    · rename_i e
      have : ((x : Int) == (i : Int)) = false := by simp; omega
      rw [this, Bool.or_false]
/-- What has been seen is well so far. -/
def goodP (n : Nat) (P : List Int) : Prop := (∀ x ∈ P, 0 ≤ x ∧ x < (n : Int)) ∧ P.Nodup
theorem goodP_nil (n : Nat) : goodP n [] := ⟨by simp, by simp⟩
theorem goodP_snoc {n : Nat} {P : List Int} {x : Int} (h : goodP n P) (h1 : inR x 0 ((n : Int) - 1) = true) (h2 : hasI P x = false) : goodP n (P ++ [x]) := by
  have hx : x ∉ P := fun hm => by rw [hasI_mem.2 hm] at h2; cases h2
  refine ⟨fun y hy => ?_, ?_⟩
  · rw [List.mem_append] at hy
    rcases hy with hy | hy
    · exact h.1 y hy
    · simp at hy; subst hy; have := inR_iff.1 h1; omega
  · rw [nodup_cnt]
    intro y
    have := nodup_cnt.1 h.2 y
    rw [List.count_append]
    by_cases e : y = x
    · subst e; rw [List.count_eq_zero.2 hx]; simp
    · rw [List.count_eq_zero.2 (fun hm : y ∈ [x] => e (by simpa using hm))]; omega
theorem goodP_pars {n : Nat} {P : List Int} (h : goodP n P) : parsB n P = true := parsB_iff.2 h
theorem pars_out {n : Nat} {P : List Int} {x : Int} (hm : x ∈ P) (h : inR x 0 ((n : Int) - 1) = false) : parsB n P = false := by
  rw [← Bool.not_eq_true]; intro e
  have := (parsB_iff.1 e).1 x hm
  rw [inR_yes (by omega) (by omega)] at h; cases h
theorem pars_twice {n : Nat} {P R Q : List Int} {x : Int} (e : Q = P ++ x :: R) (h : hasI P x = true) : parsB n Q = false := by
  rw [← Bool.not_eq_true]; intro h2
  have := nodup_cnt.1 (parsB_iff.1 h2).2 x
  rw [e, List.count_append, List.count_cons_self] at this
  have := List.count_pos_iff.2 (hasI_mem.1 h)
  omega
theorem flat_at {R : List (List Int)} {i j : Nat} (hi : i < R.length) (hj : j < (gl R i).length) :
    R.flatten = ((R.take i).flatten ++ (gl R i).take j) ++ gi (gl R i) j :: ((gl R i).drop (j + 1) ++ (R.drop (i + 1)).flatten) := by
  conv => lhs; rw [← List.take_append_drop i R]
  rw [List.flatten_append, List.drop_eq_getElem_cons hi, ← gl_eq hi, List.flatten_cons]
  conv => lhs; rw [← List.take_append_drop j (gl R i), List.drop_eq_getElem_cons hj, ← gi_eq hj]
  simp [List.append_assoc]
theorem flat_step {R : List (List Int)} {i : Nat} (hi : i < R.length) : (R.take (i + 1)).flatten = (R.take i).flatten ++ gl R i := by
  rw [List.take_succ_eq_append_getElem hi, List.flatten_append, gl_eq hi]; simp
theorem rowsM_flat (m : Mac) : ([m.fr, m.bk, [m.dr]] : List (List (List Int))).flatten.flatten = allM m := by simp [allM]
/-- All cells but those of block s are as they were. -/
def SameBut (s : Nat) (w w' : World) : Prop := ∀ p : Addr, p.block ≠ s → w'.cell? p = w.cell? p
theorem SameBut.refl (s : Nat) (w : World) : SameBut s w w := fun _ _ => rfl
theorem SameBut.set {s : Nat} {w w' : World} (h : SameBut s w w') (k : Nat) (x : Value) : SameBut s w (w'.setCell ⟨s, k, none⟩ x) := fun p hp => by
  rw [← h p hp]
  simp only [World.cell?, Below.heap_setCell w' ⟨s, k, none⟩ x p.block hp]
/-- Block s holds Booleans alone. -/
def Bools (s : Nat) (w : World) : Prop := ∀ o u, w.cell? ⟨s, o, none⟩ = some u → ∃ x, u = .bool x
theorem OwB.bools {w : World} {lo hi s n : Nat} {bs : List Bool} (h : OwB w lo hi (.slice (some ⟨s, 0, none⟩) n n) bs) : Bools s w := by
  obtain ⟨h1, -⟩ := h
  intro o u hu
  rcases h1.2 with ⟨h, -⟩ | ⟨g, cap, cur, e, hlo, hh, hn, hcap, hsz, htake⟩
  · cases h
  · simp only [Value.slice.injEq, Option.some.injEq, Addr.mk.injEq] at e
    obtain ⟨⟨rfl, -, -⟩, e2, rfl⟩ := e
    rw [cell_of_row w s o cur _ (0, 0) hh] at hu
    have ho : o < cur.size := by
      rcases Nat.lt_or_ge o cur.size with q | q
      · exact q
      · rw [Array.getElem?_eq_none q] at hu; cases hu
    have : cur.toList[o]? = some u := by simpa using hu
    have h3 : (cur.toList.take (bs.length * 1))[o]? = some u := by rw [List.getElem?_take, if_pos (by omega)]; exact this
    rw [htake] at h3
    rw [List.getElem?_map] at h3
    cases hb : bs[o]? with
    | none => rw [hb] at h3; cases h3
    | some x => rw [hb] at h3; simp at h3; exact ⟨x, h3.symm⟩
theorem Sl.apart {s : Nat} {w w' : World} {B : Nat} {v : Value} {xs : List Int} (h : Sl w B v xs) (hs : Bools s w) (hk : SameBut s w w') : Sl w' B v xs := by
  obtain ⟨A, c, h1, h2, h3, h4, h5⟩ := h
  refine ⟨A, c, h1, h2, h3, h4, fun hp => ?_⟩
  obtain ⟨b, off, e, hb, hc⟩ := h5 hp
  refine ⟨b, off, e, hb, fun k hk' => ?_⟩
  have := hc k hk'
  rw [hk _ (fun q : b = s => by subst q; obtain ⟨x, hx⟩ := hs _ _ this; cases hx)]
  exact this
theorem SlS.apart {s : Nat} {w w' : World} {B : Nat} {v : Value} {xss : List (List Int)} (h : SlS w B v xss) (hs : Bools s w) (hk : SameBut s w w') : SlS w' B v xss := by
  obtain ⟨A, c, h1, h2, h3, h4, h5⟩ := h
  refine ⟨A, c, h1, h2, h3, h4, fun hp => ?_⟩
  obtain ⟨b, off, e, hb, hc⟩ := h5 hp
  refine ⟨b, off, e, hb, fun k hk' => ?_⟩
  obtain ⟨u, hu, hS⟩ := hc k hk'
  refine ⟨u, ?_, hS.apart hs hk⟩
  rw [hk _ (fun q : b = s => by subst q; obtain ⟨x, hx⟩ := hs _ _ hu; subst hx; obtain ⟨A, c, e, -⟩ := hS; cases e)]
  exact hu
/-- slices.Concat of the beds and the dropped, at a world where its row has been laid. -/
theorem concat3_any {fv bv dv : Value} {fr bk : List (List Int)} {dr : List Int} {B g0 g1 : Nat} {t0 t1 : TypeId} {w W : World} (hf : SlS w B fv fr) (hb : SlS w B bv bk) (hd : Sl w B dv dr) (hB : B ≤ w.heap.size) (hW : Below w.heap.size w W)
    (h0 : W.heap[g0]? = some (.cells #[dv] t0)) (h1 : W.heap[g1]? = some (.cells #[fv, bv, .slice (some ⟨g0, 0, none⟩) 1 1] t1)) (hsz : fr.length + bk.length ≤ 100000) :
    Calls Try.prog 74 #[.slice (some ⟨g1, 0, none⟩) 3 3] W fun e w' => ∃ r, e = .returned r ∧ SlS w' w'.heap.size r (fr ++ bk ++ [dr]) ∧ Below w.heap.size w w' := by
  have l0 := heap_lt h0
  have l1 := heap_lt h1
  have hz := hW.size
  have hs0 : SlS W W.heap.size (.slice (some ⟨g0, 0, none⟩) 1 1) [dr] := by
    refine ⟨_, 1, rfl, by simp, by simp [maxLen], by simp, fun _ => ⟨g0, 0, rfl, l0, fun k hk => ?_⟩⟩
    obtain rfl : k = 0 := by simpa using hk
    exact ⟨dv, cell_of_row W g0 0 _ t0 (0, 0) h0, by rw [show gl [dr] 0 = dr from rfl]; exact (hd.below hW hB).mono (by omega)⟩
  refine (concatSS_any g1 [fv, bv, .slice (some ⟨g0, 0, none⟩) 1 1] [fr, bk, [dr]] W.heap.size W (Nat.le_refl _) l1 rfl (by simp) (by simp; omega) ?_).mono ?_
  · intro k u hu
    match k, hu with
    | 0, hu => simp at hu; subst hu; exact ⟨cell_of_row W g1 0 _ t1 (0, 0) h1, (hf.below hW hB).mono (by omega)⟩
    | 1, hu => simp at hu; subst hu; exact ⟨cell_of_row W g1 1 _ t1 (0, 0) h1, (hb.below hW hB).mono (by omega)⟩
    | 2, hu => simp at hu; subst hu; exact ⟨cell_of_row W g1 2 _ t1 (0, 0) h1, hs0⟩
  · rintro e w' ⟨r, rfl, hs, hb'⟩
    refine ⟨r, rfl, by simpa using hs, hW.trans (hb'.mono hz)⟩
theorem concatFB_any {fv bv : Value} {fr bk : List (List Int)} {B g1 : Nat} {t1 : TypeId} {w W : World} (hf : SlS w B fv fr) (hb : SlS w B bv bk) (hB : B ≤ w.heap.size) (hW : Below w.heap.size w W)
    (h1 : W.heap[g1]? = some (.cells #[fv, bv] t1)) (hsz : fr.length + bk.length ≤ 100000) :
    Calls Try.prog 74 #[.slice (some ⟨g1, 0, none⟩) 2 2] W fun e w' => ∃ r, e = .returned r ∧ SlS w' w'.heap.size r (fr ++ bk) ∧ Below w.heap.size w w' := by
  have l1 := heap_lt h1
  have hz := hW.size
  refine (concatSS_any g1 [fv, bv] [fr, bk] W.heap.size W (Nat.le_refl _) l1 rfl (by simp) (by simp; omega) ?_).mono ?_
  · intro k u hu
    match k, hu with
    | 0, hu => simp at hu; subst hu; exact ⟨cell_of_row W g1 0 _ t1 (0, 0) h1, (hf.below hW hB).mono (by omega)⟩
    | 1, hu => simp at hu; subst hu; exact ⟨cell_of_row W g1 1 _ t1 (0, 0) h1, (hb.below hW hB).mono (by omega)⟩
  · rintro e w' ⟨r, rfl, hs, hb'⟩
    refine ⟨r, rfl, by simpa using hs, hW.trans (hb'.mono hz)⟩
theorem concat3_at {fv bv dv : Value} {fr bk : List (List Int)} {dr : List Int} {B : Nat} {t0 t1 : TypeId} {w : World} (hf : SlS w B fv fr) (hb : SlS w B bv bk) (hd : Sl w B dv dr) (hB : B ≤ w.heap.size) (hsz : fr.length + bk.length ≤ 100000) :
    Calls Try.prog 74 #[.slice (some ⟨w.heap.size + 1, 0, none⟩) 3 3] ((w.alloc (.cells #[dv] t0)).alloc (.cells #[fv, bv, .slice (some ⟨w.heap.size, 0, none⟩) 1 1] t1)).drew fun e w' => ∃ r, e = .returned r ∧ SlS w' w'.heap.size r (fr ++ bk ++ [dr]) ∧ Below w.heap.size w w' := by
  have e1 : (w.alloc (.cells #[dv] t0)).heap.size = w.heap.size + 1 := World.size_alloc _ _
  refine concat3_any (g0 := w.heap.size) (g1 := w.heap.size + 1) (t0 := t0) (t1 := t1) hf hb hd hB (al2 w _ _).drew ?_ ?_ hsz
  · exact (Below.heap_alloc _ _ _ (by omega)).trans (alloc_at_ w _)
  · have := alloc_at_ (w.alloc (.cells #[dv] t0)) (.cells #[fv, bv, .slice (some ⟨w.heap.size, 0, none⟩) 1 1] t1)
    rw [e1] at this
    exact this
set_option maxRecDepth 100000 in
set_option maxHeartbeats 6400000 in
theorem areApart_any {f b c l d : Value} {m : Mac} {B g : Nat} {w : World} (h : SlM w B f b c l d m) (hB : B ≤ w.heap.size) (hx : w.heap[g]? = some (.cells #[.int .i64 m.wd, .int .i64 m.rk, f, b, c, l, d] 27)) (hsz : m.fr.length + m.bk.length ≤ 100000) (hlp : m.lp.length ≤ 300) :
    Calls Try.prog 76 #[.pointer (some ⟨g, 0, none⟩)] w fun e w' => e = .returned (.bool (parsB m.lp.length (allM m))) ∧ Below w.heap.size w w' := by
  obtain ⟨Af, kf, rfl, hlf, hmf, -⟩ := id h.fr
  obtain ⟨Ab, kb, rfl, hlb, hmb, -⟩ := id h.bk
  obtain ⟨Al, kl, rfl, hll, hml, -⟩ := id h.lp.cells
  obtain ⟨Ad, kd, rfl, hld, hmd, -⟩ := id h.dr
  unfold maxLen at hmf hmb hmd
  have hgl := heap_lt hx
  have H := Lib.hid h
  have X := Lib.hid hx
  obtain ⟨i0, hi, hz0, hz1, hz2⟩ := info_parts bool_info
  have HI := Lib.hid hi
  have HZ := Lib.hid hz0
  have HALL := Lib.hid (rowsM_flat m)
  generalize hn : m.lp.length = n at *
  have HN := Lib.hid hn
  obtain ⟨⟨p0, p1, p2, p3, p4, p5, p6⟩, -, -⟩ := box7 X.out
  clear hx h hi hz0 hn p0 p1 p4
  go_enter Try.func76, Try.ntmps76
  go_wp2_with (at_make; refine wpList_make_full _ rfl _ _ 125 rfl w.heap.size 4 i0 (.bool false) 1 Try.underlying125 HI.out HZ.out hz1 _ _ _ _ n rfl rfl rfl rfl (by rw [hz2]; omega) (by unfold maxLen; omega) (Nat.le_refl _) ?_)
  intro w2 hown hg2
  have hO : OwB w2 w.heap.size w2.heap.size (.slice (some ⟨w.heap.size, 0, none⟩) n n) (seenB n []) := by
    unfold OwB
    rw [seenB_len, seenB_nil, List.map_replicate]
    rw [toList_madeCells_one] at hown
    exact OwR.of_own hown
  have hb2 : Below w.heap.size w w2 := (Below.refl w.heap.size w).grown hg2 (Nat.le_refl _) (by simp)
  have hz2' : w.heap.size < w2.heap.size := (hown.lt _ rfl).2
  have HO := Lib.hid hO
  have HB2 := Lib.hid hb2
  clear hown hg2 hO hb2 p2 p3 p5 p6
  obtain ⟨⟨p0, p1, p2, p3, p4, p5, p6⟩, -, -⟩ := box7 (keep_fwd HB2.out X.out)
  have H2 := Lib.hid (H.out.below HB2.out hB)
  have hBz : B ≤ w2.heap.size := by omega
  have HK := Lib.hid (fun w' (hw : Below w2.heap.size w2 w') => show (w'.cell? ⟨g, 2, none⟩ = some (.slice Af m.fr.length kf) ∧ w'.cell? ⟨g, 3, none⟩ = some (.slice Ab m.bk.length kb) ∧ w'.cell? ⟨g, 6, none⟩ = some (.slice Ad m.dr.length kd)) ∧ Below w2.heap.size w2 w' from
    ⟨⟨by rw [hw.cell (by simp only; omega)]; exact p2, by rw [hw.cell (by simp only; omega)]; exact p3, by rw [hw.cell (by simp only; omega)]; exact p6⟩, hw⟩)
  clear p0 p1 p4
  go_wp2_with fail
  go_region_held3 (fun w' => (w'.cell? ⟨g, 2, none⟩ = some (.slice Af m.fr.length kf) ∧ w'.cell? ⟨g, 3, none⟩ = some (.slice Ab m.bk.length kb) ∧ w'.cell? ⟨g, 6, none⟩ = some (.slice Ad m.dr.length kd)) ∧ Below w2.heap.size w2 w') (exact HK.out _ (by first | assumption | go_grown))
    ((go_at_call 74; (refine (concat3_at (B := B) H2.out.fr H2.out.bk H2.out.dr hBz hsz).mono ?_); rintro e w3 ⟨r3, rfl, hs3, hb3⟩; (generalize hR : m.fr ++ m.bk ++ [m.dr] = R at *); obtain ⟨A3, c3, rfl, hl3, hm3, -⟩ := id hs3; have hz3 := hb3.size; have HR := Lib.hid hR; clear hR; have HB3 := Lib.hid hb3; have HS3 := Lib.hid hs3; clear hb3 hs3))
  have HF : Hid (R.flatten = allM m) := Lib.hid (by rw [← HR.out]; simp [allM])
  unfold maxLen at hm3
  have HO3 := Lib.hid (show OwB w3 w.heap.size w2.heap.size (.slice (some ⟨w.heap.size, 0, none⟩) n n) (seenB n []) from OwR.below HO.out HB3.out (Nat.le_refl _))
  have HBO := Lib.hid (OwB.bools HO3.out)
  have hb3 := HB2.out.trans (HB3.out.mono (Nat.le_of_lt hz2'))
  have hg0 := goodP_nil n
  have hsb := SameBut.refl w.heap.size w3
  have hO3 := HO3.out
  clear HK H2 p2 p3 p5 p6
  go_wp2_with fail
  go_loopw [30] (fun i wr => ∃ k : Nat, k ≤ R.length ∧ i = .int .i64 k ∧ goodP n (R.take k).flatten ∧ OwB wr w.heap.size w2.heap.size (.slice (some ⟨w.heap.size, 0, none⟩) n n) (seenB n (R.take k).flatten) ∧ SameBut w.heap.size w3 wr ∧ Below w.heap.size w wr) (fun i _ => R.length - (intOf i).toNat)
  case atStart => exact ⟨0, Nat.zero_le _, rfl, by simpa using hg0, by simpa using hO3, hsb, hb3⟩
  case round =>
    obtain ⟨k, hk, rfl, hgood, hO, hsm, hb⟩ := hrel
    clear hg0 hO3 hsb hb3
    obtain ⟨w4, hw4⟩ : ∃ x, x = wr := ⟨_, rfl⟩
    subst hw4
    have HG := Lib.hid hgood
    have HO := Lib.hid hO
    have HSM := Lib.hid hsm
    have HB := Lib.hid hb
    clear hgood hO hsm hb
    by_cases hlt : k < R.length
    · obtain ⟨A9, c9, e9, -, -, -, hcell⟩ := HS3.out.apart HBO.out HSM.out
      simp only [Value.slice.injEq] at e9
      obtain ⟨rfl, -, rfl⟩ := e9
      obtain ⟨b1, off, rfl, hbB, hcc⟩ := hcell (by omega)
      obtain ⟨u, p0, s0⟩ := hcc k hlt
      obtain ⟨Au, cu, rfl, hul, hum, -⟩ := id s0
      unfold maxLen at hum
      have HS0 := Lib.hid s0
      have HBO4 := Lib.hid (HO.out.bools)
      have HST := Lib.hid (flat_step hlt)
      have HAT := Lib.hid (fun j (hj : j < (gl R k).length) => flat_at hlt hj)
      clear hcell hcc s0
      generalize gl R k = cur at *
      generalize (R.take k).flatten = P at *
      have h0 : goodP n (P ++ cur.take 0) ∧ OwB w4 w.heap.size w2.heap.size (.slice (some ⟨w.heap.size, 0, none⟩) n n) (seenB n (P ++ cur.take 0)) := by simpa using ⟨HG.out, HO.out⟩
      have hb0 := HB.out
      have hs0 := SameBut.refl w.heap.size w4
      go_wp2_with fail
      go_loopw [36] (fun i wr => ∃ j : Nat, j ≤ cur.length ∧ i = .int .i64 j ∧ (goodP n (P ++ cur.take j) ∧ OwB wr w.heap.size w2.heap.size (.slice (some ⟨w.heap.size, 0, none⟩) n n) (seenB n (P ++ cur.take j))) ∧ SameBut w.heap.size w4 wr ∧ Below w.heap.size w wr) (fun i _ => cur.length - (intOf i).toNat)
      case atStart => exact ⟨0, Nat.zero_le _, rfl, h0, hs0, hb0⟩
      case round =>
        obtain ⟨j, hj, rfl, ⟨hgood, hO⟩, hsm, hb⟩ := hrel
        have HG2 := Lib.hid hgood
        have HO2 := Lib.hid hO
        have HSM2 := Lib.hid hsm
        have HB4 := Lib.hid hb
        clear hgood hO hsm hb h0 hb0 hs0 p0
        by_cases hlj : j < cur.length
        · obtain ⟨A9, c9, e9, -, -, -, hcell⟩ := HS0.out.apart HBO4.out HSM2.out
          simp only [Value.slice.injEq] at e9
          obtain ⟨rfl, -, rfl⟩ := e9
          obtain ⟨b2, off2, rfl, hbB2, hcc⟩ := hcell (by omega)
          have r1 := hcc j hlj
          clear hcell hcc
          have HA := Lib.hid (HAT.out j hlj)
          have HT1 := Lib.hid (take_gi hlj)
          have hmem : Hid (gi cur j ∈ allM m) := Lib.hid (by rw [← HF.out, HA.out]; simp)
          generalize gi cur j = x at *
          generalize hP2 : P ++ cur.take j = P2 at *
          have HP2 := Lib.hid hP2
          clear hP2
          obtain ⟨⟨-, -, -, -, -, p5, -⟩, -, -⟩ := box7 (keep_fwd HB4.out X.out)
          cases hi : inR x 0 ((n : Int) - 1)
          · have HT := Lib.hid (pars_out hmem.out hi)
            go_wp2_with (go_at_call 46; refine (is_same hi (within_any _ _ _ _)).mono ?_; rintro e w' ⟨rfl, rfl⟩)
            go_ret
            exact ⟨ret_bool HT.out.symm, HB4.out⟩
          · obtain ⟨x0, x1⟩ := inR_iff.1 hi
            obtain ⟨y, rfl⟩ : ∃ y : Nat, x = y := ⟨x.toNat, by omega⟩
            have hyn : y < n := by omega
            obtain ⟨g9, cap9, hv, -, -, q8, q9, hO5, hch⟩ := HO2.out.set_ y (by rw [seenB_len]; exact hyn) true
            obtain rfl : w.heap.size = g9 := by injection hv with hv _ _; injection hv with hv; injection hv
            rw [seenB_get hyn] at q8
            rw [seenB_set] at hO5
            cases hh : hasI P2 (y : Int)
            · rw [hh] at q8
              have HG5 := Lib.hid (goodP_snoc HG2.out hi hh)
              have HO5 := Lib.hid hO5
              have HSM5 := Lib.hid (HSM2.out.set y (.bool true))
              have HB5 := Lib.hid (hch.below (Nat.le_refl _) HB4.out.size)
              clear hv hO5 hch hh
              go_wp2_with (go_at_call 46; refine (is_same hi (within_any _ _ _ _)).mono ?_; rintro e w' ⟨rfl, rfl⟩)
              go_roundw
              case rel => exact ⟨j + 1, by omega, by go_num, by rw [HT1.out, ← List.append_assoc, HP2.out]; exact ⟨HG5.out, HO5.out⟩, HSM5.out, HB4.out.trans HB5.out⟩
              case measure => simp [intOf]; omega
            · rw [hh] at q8
              have HT := Lib.hid (pars_twice (n := n) (HF.out.symm.trans HA.out) hh)
              clear hv hO5 hch hh
              go_wp2_with (go_at_call 46; refine (is_same hi (within_any _ _ _ _)).mono ?_; rintro e w' ⟨rfl, rfl⟩)
              go_ret
              exact ⟨ret_bool HT.out.symm, HB4.out⟩
        · obtain rfl : j = cur.length := by omega
          rw [List.take_length] at HG2 HO2
          go_wp2_with fail
          go_roundw
          case rel => exact ⟨k + 1, by omega, by go_num, by rw [HST.out]; exact HG2.out, by rw [HST.out]; exact HO2.out, fun p hp => (HSM2.out p hp).trans (HSM.out p hp), HB4.out⟩
          case measure => simp [intOf]; omega
    · obtain rfl : k = R.length := by omega
      have HT : Hid (parsB n (allM m) = true) := Lib.hid (by rw [← HF.out]; have := HG.out; rw [List.take_length] at this; exact goodP_pars this)
      go_wp2_with fail
      go_ret
      exact ⟨ret_bool HT.out.symm, HB.out⟩
end Go.Proofs.Ytbefioljddhhpaa
