/-
  Contracts: the reference's inverse of a braid and DrawArtinAction (a seat without the normal form).
-/
import Derived.Test.YtcoocjdkppdlmaaDb2
namespace Go.Proofs.Ytcoocjdkppdlmaa
set_option maxRecDepth 10000
open Go.RowKit

theorem SlB.up {w : World} {B B' : Nat} {v : Value} {bs : List Int} (h : SlB w B v bs) (hB : B ≤ B') : SlB w B' v bs := by
  obtain ⟨A, c, rfl, h1, h2, h3, h4⟩ := h
  refine ⟨A, c, rfl, h1, h2, h3, fun hp => ?_⟩
  obtain ⟨b, off, rfl, hb, hc⟩ := h4 hp
  exact ⟨b, off, rfl, by omega, hc⟩
theorem SlB.below {w w' : World} {B : Nat} {v : Value} {bs : List Int} (h : SlB w B v bs) (hb : Below B w w') : SlB w' B v bs := h.keep fun _ hq => World.cell?_of_block (w := w) (hb.block _ hq)
theorem _root_.Go.RowKit.Below.box {B g : Nat} {w w' : World} {o : Option Obj} (hb : Below B w w') (h : w.heap[g]? = o) (hg : g < B) : w'.heap[g]? = o := (hb.block g hg).trans h
theorem Chg.box {lo hi g : Nat} {w w' : World} {o : Option Obj} (hc : Chg lo hi w w') (h : w.heap[g]? = o) (hg : g < w.heap.size) (hd : g < lo ∨ hi ≤ g) : w'.heap[g]? = o := (hc.block g hg hd).trans h
theorem l03Ok_q {s : Int} {v : Value} {xs : List Int} {B g : Nat} {w : World} {T : Bool} (hT : okBr s xs = T) (h : Sl w B v xs) (c0 : w.cell? ⟨g, 0, none⟩ = some (.int .i64 s)) (c1 : w.cell? ⟨g, 1, none⟩ = some v) :
    Calls Try.prog 56 #[.pointer (some ⟨g, 0, none⟩)] w fun e w' => e = .returned (.bool T) ∧ Below w.heap.size w w' := by
  rw [← hT]
  refine (l03Ok_any s v xs B g w h c0 c1).mono ?_
  rintro e w' ⟨rfl, n, rfl⟩
  exact ⟨rfl, drewN_below _ _ _⟩
/-- The strands and the word of the reference's inverse. -/
def ivN (n : Int) (xs : List Int) : Int := if okBr n xs = true then n else 0
def ivX (n : Int) (xs : List Int) : List Int := if okBr n xs = true then inv xs else []
set_option maxHeartbeats 1600000 in
theorem InvertBraid_any (n : Int) (v : Value) (xs : List Int) (B : Nat) (w : World) (h : Sl w B v xs) (hB : B ≤ w.heap.size) :
    Calls Try.prog 45 #[.agg #[.int .i64 n, v]] w fun e w' => ∃ r, e = .returned (.agg #[.int .i64 (ivN n xs), r]) ∧ SlI w.heap.size w'.heap.size w' r (ivX n xs) ∧ Below w.heap.size w w' := by
  obtain ⟨A, c, rfl, hcl, hcm, -⟩ := id h
  have hA := al1 w (.cells #[.int .i64 n, .slice A xs.length c] 41)
  have hx := alloc_at_ w (.cells #[.int .i64 n, .slice A xs.length c] 41)
  generalize hW : w.alloc (.cells #[.int .i64 n, .slice A xs.length c] 41) = W at hA hx
  have hWs : W.heap.size = w.heap.size + 1 := by rw [← hW]; simp
  have hA2 := al1 W (.cells #[.int .i64 0, .slice none 0 0] 41)
  have hx2 := alloc_at_ W (.cells #[.int .i64 0, .slice none 0 0] 41)
  have hy2 := hA2.box hx (by omega)
  generalize hW2 : W.alloc (.cells #[.int .i64 0, .slice none 0 0] 41) = W2 at hA2 hx2 hy2
  have hW2s : w.heap.size + 2 ≤ W2.heap.size := by rw [← hW2]; simp [hWs]
  rw [hWs] at hx2
  have hB2 : Below w.heap.size w W2 := hA.trans (hA2.mono (by omega))
  have hs2 := h.below hB2 hB
  clear hA hA2 hx
  obtain ⟨p0, p1, -, -, -⟩ := box2 hy2
  cases hok : okBr n xs
  · have HN := Lib.hid (show ivN n xs = 0 by simp [ivN, hok])
    have HX := Lib.hid (show ivX n xs = [] by simp [ivX, hok])
    go_enter Try.func45, Try.ntmps45
    go_wp2_with fail
    refine (l03Ok_q hok hs2 p0 p1).mono ?_
    rintro e w3 ⟨rfl, hb3⟩
    have hz3 := hb3.size
    have hx3 := hb3.box hx2 (by omega)
    have hb03 := hB2.trans (hb3.mono (by omega))
    obtain ⟨q0, q1, f0, f1, hg⟩ := box2 hx3
    obtain ⟨-, e1, e2⟩ := two_sets w3 (w.heap.size + 1) (.int .i64 0) (.slice none 0 0) q0 q1
    have HB := Lib.hid hb03
    clear hb03 hb3 hx2 hy2 hs2 hB2 hW hW2 hWs
    go_wp2_with fail
    refine bodyPost_ret (v := .agg #[.int .i64 0, .slice none 0 0]) (by simp [results, Try.results45, go_sem, e1, e2]) rfl ?_
    exact ⟨_, by rw [HN.out], by rw [HX.out]; exact (Ow.nil _ _ _).slI, HB.out.trans (set_below (by simp only; omega) (set_below (by simp only; omega) (Below.refl _ _)))⟩
  · have HN := Lib.hid (show ivN n xs = n by simp [ivN, hok])
    have HX := Lib.hid (show ivX n xs = inv xs by simp [ivX, hok])
    obtain ⟨k1, k2, k3, -⟩ := okBr_parts hok
    have HM := Lib.hid (okBr_mem hok)
    go_enter Try.func45, Try.ntmps45
    go_wp2_with fail
    refine (l03Ok_q hok hs2 p0 p1).mono ?_
    rintro e w3 ⟨rfl, hb3⟩
    have hz3 := hb3.size
    have hx3 := hb3.box hx2 (by omega)
    have hy3 := hb3.box hy2 (by omega)
    have hs3 := hs2.below hb3 (by omega)
    have hb03 := hB2.trans (hb3.mono (by omega))
    have HB := Lib.hid hb03
    clear hb03 hb3 hx2 hy2 hs2 hB2 hW hW2 hWs p0 p1
    obtain ⟨r0, r1, rf0, rf1, -⟩ := box2 hx3
    obtain ⟨q0, q1, -, -, hg⟩ := box2 hy3
    have HK := Lib.hid (fun w' (hw : Below w3.heap.size w3 w') => show (w'.cell? ⟨w.heap.size, 0, none⟩ = some (.int .i64 n) ∧ w'.cell? ⟨w.heap.size, 1, none⟩ = some (.slice A xs.length c)) ∧
        (w'.cell? ⟨w.heap.size + 1, 0, none⟩ = some (.int .i64 0) ∧ w'.cell? ⟨w.heap.size + 1, 1, none⟩ = some (.slice none 0 0) ∧ w'.frozen? ⟨w.heap.size + 1, 0, none⟩ = false ∧ w'.frozen? ⟨w.heap.size + 1, 1, none⟩ = false) from
      have e1 := hw.block w.heap.size (by omega)
      have e2 := hw.block (w.heap.size + 1) (by omega)
      ⟨⟨by rw [World.cell?_of_block (w := w3) e1]; exact q0, by rw [World.cell?_of_block (w := w3) e1]; exact q1⟩, by rw [World.cell?_of_block (w := w3) e2]; exact r0, by rw [World.cell?_of_block (w := w3) e2]; exact r1, by rw [World.frozen?_of_block (w := w3) e2]; exact rf0, by rw [World.frozen?_of_block (w := w3) e2]; exact rf1⟩)
    clear r0 r1 rf0 rf1
    have hsd : Sl w3.drew B (.slice A xs.length c) xs := hs3
    go_wp2_with fail
    go_region_law
      (go_simp; go_at_call 70; (refine (l03Inverse_any _ xs B _ hsd (show B ≤ w3.heap.size by omega) (by omega) (fun x hx => by have := HM.out x hx; omega)).mono ?_); rintro e w7 ⟨r7, rfl, hO7, hb7⟩; have hr7 : Below w3.heap.size w3 w7 := Below.trans (drewN_below _ _ _) hb7; obtain ⟨A7, c7, rfl, -⟩ := id (hO7.sl (Nat.le_refl _)); obtain ⟨⟨q07, q17⟩, r0, r1, rf0, rf1⟩ := HK.out _ hr7; dsimp only)
    all_goals
      have hz7 := hr7.size
      have hx7 := hr7.box hx3 (by omega)
      obtain ⟨⟨e1, e2⟩, hI9, hbl⟩ := fin_box (n := n) hx7 (show Ow w7 w3.heap.size w7.heap.size _ _ from hO7).slI (by omega) (Nat.le_refl _)
      have HI := Lib.hid (hI9.mono (lo' := w.heap.size) (by omega) (Nat.le_refl _))
      have HR := Lib.hid ((HB.out.trans (hr7.mono (by omega))).trans (hbl.mono (by omega)))
      clear hr7 HK hs3 hsd hb7 hI9 hbl hO7
      go_wp2_with fail
      refine bodyPost_ret (v := .agg #[.int .i64 n, .slice A7 (inv xs).length c7]) (by simp [results, Try.results45, go_sem, e1, e2]) rfl ?_
      exact ⟨_, by rw [HN.out], by rw [HX.out]; exact HI.out, HR.out⟩
set_option maxHeartbeats 1600000 in
theorem DrawArtinAction_any (v0 : Value) (bs : List Int) (w : World) (h : SlB w w.heap.size v0 bs) :
    Calls Try.prog 43 #[v0] w fun e w' => ∃ (n : Int) (v : Value) (xs : List Int), e = .returned (.agg #[.int .i64 n, v]) ∧ SlI w.heap.size w'.heap.size w' v xs ∧ xs.length ≤ 60 ∧ Below w.heap.size w w' := by
  have hA := al1 w (.cells #[.int .i64 0, .slice none 0 0] 41)
  have hx := alloc_at_ w (.cells #[.int .i64 0, .slice none 0 0] 41)
  generalize hW : w.alloc (.cells #[.int .i64 0, .slice none 0 0] 41) = W at hA hx
  have hWs : W.heap.size = w.heap.size + 1 := by rw [← hW]; simp
  obtain ⟨p, hpe, hpl, hpu⟩ : ∃ p, W.heap.size = p ∧ w.heap.size + 1 ≤ p ∧ p ≤ w.heap.size + 1 := ⟨_, rfl, by omega, by omega⟩
  have hSl : SlB W W.heap.size v0 bs := (h.below hA).up (by omega)
  go_enter Try.func43, Try.ntmps43
  go_wp2_with fail
  refine (l00From_any v0 bs W hSl).mono ?_
  rintro e w1 ⟨rfl, hs1, hb1⟩
  rw [hpe] at hs1 hb1 ⊢
  have hz1 := hb1.size
  have hp1 := hs1.lt
  have hx1 := hb1.box hx (by omega)
  have hB1 : Below w.heap.size w w1 := hA.trans (hb1.mono (by omega))
  clear hb1 hx hA hSl h hW hWs hpe
  go_wp2_with fail
  refine (l03Bent_any 12 p 0 w1 hs1 (by omega) (by omega) (by omega)).mono ?_
  rintro e w2 ⟨n, r, xs, rfl, hI2, hl2, -, hs2, hc2⟩
  obtain ⟨A, c, rfl, -⟩ := id hI2
  have hz2 := hc2.size
  have hx2 := hc2.box hx1 (by omega) (by omega)
  have hB2 : Below w.heap.size w w2 := hB1.trans (hc2.below (by omega) (by omega))
  obtain ⟨r0, r1, rf0, rf1, -⟩ := box2 hx2
  obtain ⟨⟨e1, e2⟩, hI8, hbl⟩ := fin_box (n := n) hx2 hI2 (by omega) (by omega)
  have HI := Lib.hid (hI8.mono (lo' := w.heap.size) (by omega) (Nat.le_refl _))
  have HR := Lib.hid (hB2.trans hbl)
  clear hI8 hbl hI2 hB2 hs2 hc2 hx2 hx1 hs1 hB1
  go_wp2_with fail
  refine bodyPost_ret (v := .agg #[.int .i64 n, .slice A xs.length c]) (by simp [results, Try.results43, go_sem, e1, e2]) rfl ?_
  exact ⟨n, _, xs, rfl, HI.out, hl2, HR.out⟩
end Go.Proofs.Ytcoocjdkppdlmaa
