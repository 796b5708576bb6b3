/-
  Contracts: the laws' marks on descriptions of loops.
-/
import Derived.Test.YtbefioljddhhpaaMc5
namespace Go.Proofs.Ytbefioljddhhpaa
set_option maxRecDepth 10000
open Go.RowKit

/-- Five stores into the numbers of a description. -/
theorem OwC.set5 {e : TypeId} {w : World} {S : Nat → Prop} {g n cap : Nat} {M : List (List Int)} (h : OwC e 6 w S (.slice (some ⟨g, 0, none⟩) n cap) n (infC M)) (k : Nat) (hk : k < M.length) (a0 a1 a2 a3 a4 : Int) :
    (∀ j, j < 6 → ∃ x, w.cell? ⟨g, k * 6 + j, none⟩ = some x ∧ w.frozen? ⟨g, k * 6 + j, none⟩ = false) ∧ ∃ W : World, W = ((((w.setCell ⟨g, k * 6, none⟩ (.int .i64 a0)).setCell ⟨g, k * 6 + 1, none⟩ (.int .i64 a1)).setCell ⟨g, k * 6 + 2, none⟩ (.int .i64 a2)).setCell ⟨g, k * 6 + 3, none⟩ (.int .i64 a3)).setCell ⟨g, k * 6 + 4, none⟩ (.int .i64 a4) ∧
      OwC e 6 W S (.slice (some ⟨g, 0, none⟩) n cap) n ((((((infC M).set (k * 6) (.p (.int .i64 a0))).set (k * 6 + 1) (.p (.int .i64 a1))).set (k * 6 + 2) (.p (.int .i64 a2))).set (k * 6 + 3) (.p (.int .i64 a3))).set (k * 6 + 4) (.p (.int .i64 a4))) ∧ ChgS S w W ∧
      ((((((infC M).set (k * 6) (.p (.int .i64 a0))).set (k * 6 + 1) (.p (.int .i64 a1))).set (k * 6 + 2) (.p (.int .i64 a2))).set (k * 6 + 3) (.p (.int .i64 a3))).set (k * 6 + 4) (.p (.int .i64 a4)))[k * 6 + 5]? = some (.s ((gl M k).drop 5)) ∧ ∀ u, W.cell? ⟨g, k * 6 + 5, none⟩ = some u → w.cell? ⟨g, k * 6 + 5, none⟩ = some u := by
  have hlen := infC_len M
  refine ⟨fun j hj => ?_, _, rfl, ?_⟩
  · obtain ⟨c, hc⟩ : ∃ c, (infC M)[k * 6 + j]? = some c := ⟨_, List.getElem?_eq_getElem (by omega)⟩
    obtain ⟨g', cap', x, e1, -, e2, e3, -⟩ := h.shape hc
    simp only [Value.slice.injEq, Option.some.injEq, Addr.mk.injEq] at e1
    obtain ⟨⟨rfl, -, -⟩, -, -⟩ := e1
    exact ⟨x, e2, e3⟩
  · obtain ⟨o0, c0⟩ := h.setP (k := k * 6) (by omega) (.int .i64 a0)
    obtain ⟨o1, c1⟩ := o0.setP (k := k * 6 + 1) (by simp; omega) (.int .i64 a1)
    obtain ⟨o2, c2⟩ := o1.setP (k := k * 6 + 2) (by simp; omega) (.int .i64 a2)
    obtain ⟨o3, c3⟩ := o2.setP (k := k * 6 + 3) (by simp; omega) (.int .i64 a3)
    obtain ⟨o4, c4⟩ := o3.setP (k := k * 6 + 4) (by simp; omega) (.int .i64 a4)
    refine ⟨o4, (((c0.trans c1).trans c2).trans c3).trans c4, ?_, fun u hu => ?_⟩
    · rw [List.getElem?_set_ne (by omega), List.getElem?_set_ne (by omega), List.getElem?_set_ne (by omega), List.getElem?_set_ne (by omega), List.getElem?_set_ne (by omega), infC_get hk (by omega)]
      rfl
    · rw [World.cell?_setCell_other _ _ _ _ (by simp), World.cell?_setCell_other _ _ _ _ (by simp), World.cell?_setCell_other _ _ _ _ (by simp), World.cell?_setCell_other _ _ _ _ (by simp), World.cell?_setCell_other _ _ _ _ (by simp)] at hu
      exact hu
set_option maxHeartbeats 400000 in
theorem markInfs_any {v : Value} {L : List (List Int)} {S : Nat → Prop} {c : Int} {w : World} (h : OwC 80 6 w S v L.length (infC L)) (hS : ∀ b, S b → b < w.heap.size) (h5 : Five L) (hsz : lenSS L ≤ 67108864) (hc0 : 0 ≤ c) (hc1 : c ≤ 1000000000) :
    Calls Try.prog 53 #[v, .int .i64 c] w fun e w' => e = .returned (.int .i64 (c + lenSS L)) ∧ OwC 80 6 w' S v L.length (infC (markSS c L)) ∧ ChgS S w w' := by
  obtain ⟨A, cap, rfl, hl, hm, -⟩ := h.sl hS
  unfold maxLen at hm
  have H5 := Lib.hid h5
  have HS := Lib.hid hS
  clear h5 hS
  go_enter Try.func53, Try.ntmps53
  go_wp2
  go_loopw [1, 5] (fun x i wr => ∃ k : Nat, k ≤ L.length ∧ i = .int .i64 k ∧ x = .int .i64 (c + lenSS (L.take k)) ∧ OwC 80 6 wr S (.slice A L.length cap) L.length (infC (markedSS c L k)) ∧ ChgS S w wr) (fun _ i _ => L.length - (intOf i).toNat)
  case atStart => exact ⟨0, Nat.zero_le _, rfl, by simp [lenSS], by rw [markedSS_zero]; exact h, ChgS.refl _ _⟩
  case round =>
    obtain ⟨k, hk, rfl, rfl, hO, hb⟩ := hrel
    by_cases hlt : k < L.length
    · have hlm := markedSS_len c L k hk
      obtain ⟨x, hx⟩ : ∃ x, (infC (markedSS c L k))[k * 6]? = some x := ⟨_, List.getElem?_eq_getElem (by rw [infC_len, hlm]; omega)⟩
      obtain ⟨g, cap', u0', hv, -, -, -, -⟩ := hO.shape hx
      obtain ⟨rfl, rfl⟩ : A = some ⟨g, 0, none⟩ ∧ cap = cap' := by injection hv with h1 h2 h3; exact ⟨h1, h3⟩
      have hg5 := H5.out _ (gl_mem hlt)
      have HL := Lib.hid (lenSS_take hlt)
      have hrow := lenSS_row hlt
      have HSET := Lib.hid (markedSS_set c L k hlt)
      have HGL := Lib.hid (markedSS_gl c L k hlt)
      have hD0 : 0 ≤ c + (lenSS (L.take k) : Int) ∧ c + (lenSS (L.take k) : Int) ≤ 1070000000 := by omega
      generalize hD : c + (lenSS (L.take k) : Int) = E at *
      obtain ⟨d0, d1⟩ := hD0
      obtain ⟨hcs, W, hW, hO3, hch, hget, hback⟩ := hO.set5 k (by rw [hlm]; exact hlt) E (E + 1) (E + 1 + 1) (E + 1 + 1 + 1) (E + 1 + 1 + 1 + 1)
      rw [HGL.out] at hget
      obtain ⟨g2, cap2, u, a, b, hv2, q1, ho, hbz, hab, hput⟩ := hO3.at_ (k * 6 + 5) _ hget fun b hb' => Nat.lt_of_lt_of_le (HS.out b hb') (hb.trans hch).size
      simp only [Value.slice.injEq, Option.some.injEq, Addr.mk.injEq] at hv2
      obtain ⟨⟨rfl, -, -⟩, -, -⟩ := hv2
      have t5 := hback u q1
      obtain ⟨x0, t0, u0⟩ := hcs 0 (by omega)
      obtain ⟨x1, t1, u1⟩ := hcs 1 (by omega)
      obtain ⟨x2, t2, u2⟩ := hcs 2 (by omega)
      obtain ⟨x3, t3, u3⟩ := hcs 3 (by omega)
      obtain ⟨x4, t4, u4⟩ := hcs 4 (by omega)
      rw [Nat.add_zero] at t0 u0
      have hdl : ((gl L k).drop 5).length = (gl L k).length - 5 := by simp
      obtain ⟨Au, cu, rfl, -⟩ := id (ho.sl (Nat.le_refl _))
      have HCF := Lib.hid (countFrom_5 E hg5)
      have HDL := Lib.hid hdl
      have hpl : ((gl L k).drop 5).length ≤ 67108864 := by omega
      generalize (gl L k).drop 5 = ps at *
      have HW := Lib.hid hW
      rw [hW] at ho
      have HCH := Lib.hid (hb.trans hch)
      have HD := Lib.hid hD
      have HP := Lib.hid hput
      have HAB := Lib.hid hab
      clear hcs hW hch hD hx hv hO hb hput hab hO3 hback hget q1 hdl hlm
      go_wp2_with fail
      refine (markInts_any _ ps a b _ _ ho hpl (by omega) (by omega)).mono ?_
      rintro e w2 ⟨rfl, ho2, hch2⟩
      have HX := Lib.hid ho2
      have HY := Lib.hid hch2
      clear ho2 hch2 t0 t1 t2 t3 t4 t5 u0 u1 u2 u3 u4 ho
      go_wp2_with fail
      go_roundw
      case rel =>
        have hch3 := HY.out
        rw [← HW.out] at hch3
        have h3 := HP.out _ w2 HX.out hch3
        simp only [Int.add_assoc, Int.reduceAdd] at h3
        have e1 : (((((((infC (markedSS c L k)).set (k * 6) (.p (.int .i64 E))).set (k * 6 + 1) (.p (.int .i64 (E + 1)))).set (k * 6 + 2) (.p (.int .i64 (E + 2)))).set (k * 6 + 3) (.p (.int .i64 (E + 3)))).set (k * 6 + 4) (.p (.int .i64 (E + 4)))).set (k * 6 + 5) (.s (countFrom (E + 5) ps.length))) = infC (markedSS c L (k + 1)) := by
          rw [infC_six (by rw [markedSS_len c L k hk]; exact hlt), HDL.out, ← HCF.out, HSET.out]
        rw [e1] at h3
        refine ⟨k + 1, by omega, by go_num, ?_, h3, HCH.out.trans ((ChgS.of_chg hch3).mono fun j hj => HAB.out j hj.1 hj.2)⟩
        rw [HL.out, ← HD.out, HDL.out]
        congr 1
        have := HD.out
        push_cast
        omega
      case measure => simp [intOf]; omega
    · obtain rfl : k = L.length := by omega
      rw [markedSS_all] at hO
      rw [List.take_length]
      go_wp2
      go_ret
      exact ⟨rfl, hO, hb⟩
end Go.Proofs.Ytbefioljddhhpaa
