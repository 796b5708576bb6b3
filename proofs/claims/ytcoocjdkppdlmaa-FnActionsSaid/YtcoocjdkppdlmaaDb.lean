/-
  Contracts: the braids that the reference draws (l03DrawWord, l03Draw, l03Bent).
-/
import Derived.Test.YtcoocjdkppdlmaaDrf
import Derived.Test.YtcoocjdkppdlmaaHand2
import Derived.Test.YtcoocjdkppdlmaaAct
import Derived.Deep.RegionLaw
namespace Go.Proofs.Ytcoocjdkppdlmaa
set_option maxRecDepth 10000
open Go.RowKit

/-- A slice that reads as xs; its block lies from lo on and below hi. -/
def SlI (lo hi : Nat) (w : World) (v : Value) (xs : List Int) : Prop :=
  ∃ A c, v = .slice A xs.length c ∧ xs.length ≤ c ∧ c ≤ maxLen ∧ (A = none → c = 0) ∧
    (0 < xs.length → ∃ b off, A = some ⟨b, off, none⟩ ∧ (lo ≤ b ∧ b < hi) ∧ ∀ k, k < xs.length → w.cell? ⟨b, off + k, none⟩ = some (.int .i64 (gi xs k)))
theorem SlI.sl {lo hi B : Nat} {w : World} {v : Value} {xs : List Int} (h : SlI lo hi w v xs) (hB : hi ≤ B) : Sl w B v xs := by
  obtain ⟨A, c, h1, h2, h3, h4, h5⟩ := h
  refine ⟨A, c, h1, h2, h3, h4, fun hp => ?_⟩
  obtain ⟨b, off, e, hb, hc⟩ := h5 hp
  exact ⟨b, off, e, by omega, hc⟩
theorem SlI.keep {lo hi : Nat} {w w' : World} {v : Value} {xs : List Int} (h : SlI lo hi w v xs) (hk : ∀ k, lo ≤ k → k < hi → w'.heap[k]? = w.heap[k]?) : SlI lo hi w' v xs := by
  obtain ⟨A, c, h1, h2, h3, h4, h5⟩ := h
  refine ⟨A, c, h1, h2, h3, h4, fun hp => ?_⟩
  obtain ⟨b, off, e, hb, hc⟩ := h5 hp
  exact ⟨b, off, e, hb, fun k hk' => by rw [World.cell?_of_block (w := w) (hk b hb.1 hb.2)]; exact hc k hk'⟩
theorem SlI.mono {lo hi lo' hi' : Nat} {w : World} {v : Value} {xs : List Int} (h : SlI lo hi w v xs) (h1 : lo' ≤ lo) (h2 : hi ≤ hi') : SlI lo' hi' w v xs := by
  obtain ⟨A, c, k1, k2, k3, k4, k5⟩ := h
  refine ⟨A, c, k1, k2, k3, k4, fun hp => ?_⟩
  obtain ⟨b, off, e, hb, hc⟩ := k5 hp
  exact ⟨b, off, e, by omega, hc⟩
theorem SlI.below {lo hi B : Nat} {w w' : World} {v : Value} {xs : List Int} (h : SlI lo hi w v xs) (hb : Below B w w') (hB : hi ≤ B) : SlI lo hi w' v xs := h.keep fun k _ hk => hb.block k (by omega)
theorem SlI.chg {lo hi p : Nat} {w w' : World} {v : Value} {xs : List Int} (h : SlI lo hi w v xs) (hc : Chg p (p + 1) w w') (hp : p < lo) (hs : hi ≤ w.heap.size) : SlI lo hi w' v xs := h.keep fun k k1 k2 => hc.block k (by omega) (by omega)
theorem Ow.slI {lo hi : Nat} {w : World} {v : Value} {xs : List Int} (h : Ow w lo hi v xs) : SlI lo hi w v xs := by
  rcases h.form with ⟨rfl, rfl⟩ | ⟨g, cap, rfl, h1, h2, h3, h4, h5⟩
  · exact ⟨none, 0, rfl, Nat.le_refl _, by simp [maxLen], fun _ => rfl, fun h => absurd h (by simp)⟩
  · exact ⟨_, cap, rfl, h3, by simp only [maxLen]; omega, (by simp), fun _ => ⟨g, 0, rfl, ⟨h1, h2⟩, fun k hk => by rw [Nat.zero_add]; exact h5 k hk⟩⟩
theorem SlI.take {lo hi n c m : Nat} {A : Option Addr} {w : World} {xs : List Int} (h : SlI lo hi w (.slice A n c) xs) (hm : m ≤ n) : SlI lo hi w (.slice A m c) (xs.take m) := by
  obtain ⟨A', c', e, h2, h3, h4, h5⟩ := h
  injection e with e1 e2 e3
  subst e1 e3
  have hl : (xs.take m).length = m := by simp; omega
  refine ⟨A, c, by rw [hl], by rw [hl]; omega, h3, h4, fun hp => ?_⟩
  rw [hl] at hp ⊢
  obtain ⟨b, off, e, hb, hc⟩ := h5 (by omega)
  exact ⟨b, off, e, hb, fun k hk => by rw [hc k (by omega)]; congr 2; simp [gi, List.getD, hk]⟩
theorem Src.chg_below {w w' : World} {p K : Nat} (h : Src w p K) (hb : Below w.heap.size w w') : Src w' p K := h.below hb h.lt
/-- What one new block more or less changes. -/
theorem chg_alloc {p : Nat} {w w1 : World} (h : Chg p (p + 1) w w1) (o : Obj) : Chg p (p + 1) w (w1.alloc o) := h.then_below ((al1 w1 o).mono h.size)
theorem chg_drew {lo hi : Nat} {a w : World} (h : Chg lo hi a w) : Chg lo hi a w.drew := ⟨h.os, h.tape, h.output, h.size, h.block⟩
theorem grown_box {w w' : World} {v : Value} {g lo hi : Nat} {xs : List Int} {w0 : World} (hg : w.grownBy w' v.ownBlock) (ho : Ow w0 lo hi v xs) (hgh : hi ≤ g) (hlt : g < w.heap.size) :
    (∀ k, w'.cell? ⟨g, k, none⟩ = w.cell? ⟨g, k, none⟩) ∧ ∀ k, w'.frozen? ⟨g, k, none⟩ = w.frozen? ⟨g, k, none⟩ := by
  have hb := hg.block g hlt fun e => by have := ho.2 g e.symm; omega
  exact ⟨fun k => World.cell?_of_block (w := w) hb, fun k => World.frozen?_of_block (w := w) hb⟩
theorem grown_below {w w' w0 : World} {v : Value} {lo hi B : Nat} {xs : List Int} (hg : w.grownBy w' v.ownBlock) (ho : Ow w0 lo hi v xs) (hB : B ≤ lo) (hs : B ≤ w.heap.size) : Below B w w' :=
  ⟨hg.os, hg.tape, hg.output, hg.size, fun k hk => hg.block k (by omega) fun e => by have := (ho.1.lt k e.symm).1; omega⟩
/-- The call's own row lies in no block of another type. -/
theorem Ow.ne_box {w : World} {lo hi g : Nat} {v : Value} {xs : List Int} {cs : Array Value} {t : TypeId} (h : Ow w lo hi v xs) (hx : w.heap[g]? = some (.cells cs t)) (ht : t ≠ 2) : v.ownBlock ≠ some g := by
  intro e
  rcases h.1.2 with ⟨rfl, -⟩ | ⟨g2, cap2, cur, rfl, -, hh, -⟩
  · cases e
  · injection e with e
    have e : g2 = g := e
    subst e
    rw [hh] at hx
    injection hx with hx
    injection hx with _ hx
    exact ht hx.symm
/-- A row of the call's own, behind a store into a block of another type. -/
theorem Ow.box_set {w : World} {lo hi g k : Nat} {v x : Value} {xs : List Int} {cs : Array Value} {t : TypeId} (h : Ow w lo hi v xs) (hx : w.heap[g]? = some (.cells cs t)) (ht : t ≠ 2) : Ow (w.setCell ⟨g, k, none⟩ x) lo hi v xs := by
  have hne := h.ne_box hx ht
  obtain ⟨⟨h1, h2⟩, hi'⟩ := h
  refine ⟨⟨h1, ?_⟩, hi'⟩
  rcases h2 with h2 | ⟨g', cap, cur, rfl, hlo, hh, r⟩
  · exact .inl h2
  · refine .inr ⟨g', cap, cur, rfl, hlo, ?_, r⟩
    have hgg : g ≠ g' := fun e => hne (by rw [e]; rfl)
    rw [Below.heap_setCell _ _ _ _ (by simpa using fun e => hgg (by omega))]
    exact hh
theorem Ow.slI_set {w : World} {lo hi g k : Nat} {v x : Value} {xs : List Int} {cs : Array Value} {t : TypeId} (h : Ow w lo hi v xs) (hx : w.heap[g]? = some (.cells cs t)) (ht : t ≠ 2) : SlI lo hi (w.setCell ⟨g, k, none⟩ x) v xs := (h.box_set hx ht).slI
/-- The end of a function that stores a braid into its result. -/
theorem fin_box {w : World} {R lo hi : Nat} {a b v : Value} {n : Int} {xs : List Int} {t : TypeId} (hx : w.heap[R]? = some (.cells #[a, b] t)) (hI : SlI lo hi w v xs) (hlo : R < lo) (hhi : hi ≤ w.heap.size) :
    (((w.setCell ⟨R, 0, none⟩ (.int .i64 n)).setCell ⟨R, 1, none⟩ v).cell? ⟨R, 0, none⟩ = some (.int .i64 n) ∧ ((w.setCell ⟨R, 0, none⟩ (.int .i64 n)).setCell ⟨R, 1, none⟩ v).cell? ⟨R, 1, none⟩ = some v) ∧
      SlI lo ((w.setCell ⟨R, 0, none⟩ (.int .i64 n)).setCell ⟨R, 1, none⟩ v).heap.size ((w.setCell ⟨R, 0, none⟩ (.int .i64 n)).setCell ⟨R, 1, none⟩ v) v xs ∧
      Below R w ((w.setCell ⟨R, 0, none⟩ (.int .i64 n)).setCell ⟨R, 1, none⟩ v) := by
  obtain ⟨q0, q1, -, -, -⟩ := box2 hx
  obtain ⟨-, e1, e2⟩ := two_sets w R (.int .i64 n) v q0 q1
  refine ⟨⟨e1, e2⟩, (hI.keep fun j h1 h2 => ?_).mono (Nat.le_refl _) (by simp [World.setCell]; omega), set_below (Nat.le_refl _) (set_below (Nat.le_refl _) (Below.refl _ _))⟩
  rw [Below.heap_setCell _ _ _ _ (by simp only; omega), Below.heap_setCell _ _ _ _ (by simp only; omega)]
/-- Behind an append to a drawn braid's word: its box, the result's box, and what a store of the braid into the result leaves. -/
theorem bent_fin {w w1 w3 w5 W6 w7 : World} {p K : Nat} {n : Int} {A1 A7 : Option Addr} {c1 c7 m : Nat} {xs ys : List Int} (hp : p < w.heap.size) (h1 : w.heap.size + 1 ≤ w1.heap.size) (hg : w1.heap.size < w3.heap.size)
    (hO3 : Ow w3 (w.heap.size + 1) w1.heap.size (.slice A1 m c1) xs) (hx3 : w3.heap[w.heap.size]? = some (.cells #[.int .i64 0, .slice none 0 0] 41)) (hb3 : w3.heap[w1.heap.size]? = some (.cells #[.int .i64 n, .slice A1 m c1] 41))
    (hc3 : Chg p (p + 1) w w3) (hr5 : Chg p (p + 1) w3 w5) (hs5 : Src w5 p K) (h56 : Below w5.heap.size w5 W6) (hg7 : W6.grownBy w7 (Value.slice A1 m c1).ownBlock) (ho7 : Ow w7 (w.heap.size + 1) w7.heap.size (.slice A7 ys.length c7) ys) :
    ((w7.setCell ⟨w1.heap.size, 1, none⟩ (.slice A7 ys.length c7)).heap[w1.heap.size]? = some (.cells #[.int .i64 n, .slice A7 ys.length c7] 41) ∧
      (w7.setCell ⟨w1.heap.size, 1, none⟩ (.slice A7 ys.length c7)).heap[w.heap.size]? = some (.cells #[.int .i64 0, .slice none 0 0] 41)) ∧
    SlI (w.heap.size + 1) w7.heap.size (w7.setCell ⟨w1.heap.size, 1, none⟩ (.slice A7 ys.length c7)) (.slice A7 ys.length c7) ys ∧
    Src (w7.setCell ⟨w1.heap.size, 1, none⟩ (.slice A7 ys.length c7)) p K ∧ Chg p (p + 1) w (w7.setCell ⟨w1.heap.size, 1, none⟩ (.slice A7 ys.length c7)) := by
  have hz5 := hr5.size
  have hz6 := h56.size
  have hbg := grown_below hg7 hO3 (B := w.heap.size + 1) (Nat.le_refl _) (by omega)
  have hb57 : Below (w.heap.size + 1) w5 w7 := (h56.mono (by omega)).trans hbg
  have hbx7 : w7.heap[w1.heap.size]? = some (.cells #[.int .i64 n, .slice A1 m c1] 41) := by
    rw [hg7.block w1.heap.size (by omega) fun e => by have := hO3.2 _ e.symm; omega, h56.block _ (by omega), hr5.block _ (by omega) (by omega)]
    exact hb3
  have hx7 : w7.heap[w.heap.size]? = some (.cells #[.int .i64 0, .slice none 0 0] 41) := by
    rw [hb57.block _ (by omega), hr5.block _ (by omega) (by omega)]
    exact hx3
  have hbs : Below (w.heap.size + 1) w7 (w7.setCell ⟨w1.heap.size, 1, none⟩ (.slice A7 ys.length c7)) := set_below (by simp only; omega) (Below.refl _ _)
  refine ⟨⟨heap_setCell_at _ hbx7, ?_⟩, ho7.slI_set hbx7 (by decide), (hs5.below hb57 (by omega)).below hbs (by omega), ((hc3.trans hr5).then_below (hb57.mono (by omega))).then_below (hbs.mono (by omega))⟩
  rw [Below.heap_setCell _ _ _ _ (by simp only; omega)]
  exact hx7
set_option maxHeartbeats 3200000 in
theorem l03DrawWord_any (n most : Int) (p K : Nat) (w : World) (h : Src w p K) (hK : K ≤ 999990000) (hn : n ≤ 1000) (hm0 : 0 ≤ most) (hm : most ≤ 100) :
    Calls Try.prog 108 #[.pointer (some ⟨p, 0, none⟩), .int .i64 n, .int .i64 most] w fun e w' => ∃ r xs, e = .returned r ∧ Ow w' w.heap.size w'.heap.size r xs ∧ xs.length ≤ 100 ∧ (xs.length : Int) ≤ most ∧ Src w' p (K + 500) ∧ Chg p (p + 1) w w' := by
  have hp := h.lt
  have hO := Ow.empty w
  have ha := al1 w (.cells #[] 2)
  have hs0 := h.below ha hp
  by_cases h2 : n < 2
  · go_enter Try.func108, Try.ntmps108
    go_wp2_with fail
    go_ret
    exact ⟨_, _, rfl, hO, by simp, by simpa using hm0, hs0.mono (by omega), ⟨ha.os, ha.tape, ha.output, ha.size, fun j hj _ => ha.block j hj⟩⟩
  · go_enter Try.func108, Try.ntmps108
    go_wp2_with fail
    refine (pick_any (most + 1) p K _ hs0 (by omega)).mono ?_
    rintro e w1 ⟨k0, rfl, k1, k2, hs1, hc1⟩
    obtain ⟨k0, rfl⟩ : ∃ k : Nat, k0 = k := ⟨k0.toNat, by omega⟩
    have hk9 : (k0 : Int) ≤ most := by omega
    have hO1 := (hc1.ow_off hO hp (Nat.le_refl _)).mono (Nat.le_refl _) hc1.size
    have hcc : Chg p (p + 1) w w1 := chg_fresh ha hc1
    clear k1 k2
    go_wp2_with fail
    go_loopw [7, 8] (fun o i wr => ∃ (k : Nat) (xs : List Int), i = .int .i64 k ∧ Ow wr w.heap.size wr.heap.size o xs ∧ (xs.length : Int) + k ≤ most ∧ Src wr p (K + 2 + 4 * (100 - k)) ∧ Chg p (p + 1) w wr) (fun _ i _ => (intOf i).toNat)
    case atStart => exact ⟨k0, [], rfl, hO1, by simp; omega, hs1.mono (by omega), hcc⟩
    case round =>
      obtain ⟨k, xs, rfl, hO2, hlen, hs2, hc2⟩ := hrel
      have hwr := hc2.size
      by_cases hk0 : 0 < k
      · have hkI : 0 < (k : Int) := by omega
        go_wp2_with fail
        refine (pick_any (n - 1) p _ _ hs2 (by omega)).mono ?_
        rintro e w3 ⟨x, rfl, x1, x2, hs3, hc3⟩
        have hx3 : x ≤ 1000 := by omega
        have hO3 := (hc3.ow_off hO2 hp (Nat.le_refl _)).mono (Nat.le_refl _) hc3.size
        go_wp2_with fail
        refine (one_any 2 p _ _ hs3 (by omega)).mono ?_
        rintro e w4 ⟨b4, rfl, hs4, hc4⟩
        have hO4 := (hc4.ow_off hO3 hp (Nat.le_refl _)).mono (Nat.le_refl _) hc4.size
        have hc5 := (hc2.trans hc3).trans hc4
        clear hO3 hO2 hs3 hs2 hc3
        cases b4
        all_goals
          go_wp2_with (at_builtin; (first | refine wpList_append_one rfl _ _ rfl _ _ _ _ _ (1 + x) rfl rfl hO4 hc5.size (by omega) ?_ | refine wpList_append_one rfl _ _ rfl _ _ _ _ _ (-(1 + x)) rfl rfl hO4 hc5.size (by omega) ?_); intro v5 w5 hO5 hg5 _)
          have hb5 := hO4.grown hg5 (Nat.le_refl _) hc5.size
          have hc6 := hc5.then_below hb5
          go_roundw
          case rel => exact ⟨k - 1, _, by go_num, hO5, by simp; omega, (hs4.below hb5 hp).mono (by omega), hc6⟩
          case measure => simp [intOf]; omega
      · obtain rfl : k = 0 := by omega
        go_wp2_with fail
        go_ret
        exact ⟨_, xs, rfl, hO2, by omega, by omega, hs2.mono (by omega), hc2⟩
set_option maxHeartbeats 1600000 in
theorem l03Draw_any (most : Int) (p K : Nat) (w : World) (h : Src w p K) (hK : K ≤ 999980000) (hm0 : 0 ≤ most) (hm : most ≤ 100) :
    Calls Try.prog 101 #[.pointer (some ⟨p, 0, none⟩), .int .i64 most] w fun e w' => ∃ (n : Int) (r : Value) (xs : List Int), e = .returned (.agg #[.int .i64 n, r]) ∧ Ow w' w.heap.size w'.heap.size r xs ∧ xs.length ≤ 100 ∧ (xs.length : Int) ≤ most ∧ (0 ≤ n ∧ n ≤ 5) ∧ Src w' p (K + 600) ∧ Chg p (p + 1) w w' := by
  have hp := h.lt
  have hA := al1 w (.cells #[.int .i64 0, .slice none 0 0] 41)
  have hx := alloc_at_ w (.cells #[.int .i64 0, .slice none 0 0] 41)
  generalize hW : w.alloc (.cells #[.int .i64 0, .slice none 0 0] 41) = W at hA hx
  have hWs : W.heap.size = w.heap.size + 1 := by rw [← hW]; simp
  have hO := ow_lits W [2, 3, 3, 4, 4, 5, 1, 0] (by simp)
  have ha := al1 W (.cells (vals [2, 3, 3, 4, 4, 5, 1, 0]).toArray 2)
  have hs0 := (h.below hA hp).below ha (by omega)
  go_enter Try.func101, Try.ntmps101
  go_wp2_with fail
  rw [hWs] at hO
  refine (among_ow hs0 (by omega) hO (by simp) (by omega) (Nat.le_refl _)).mono ?_
  rintro e w1 ⟨n, rfl, hn, hs1, hc1⟩
  have hn2 : 0 ≤ n ∧ n ≤ 5 := by simp at hn; omega
  have hc1 := chg_fresh ha hc1
  have hz1 := hc1.size
  have hx1 : w1.heap[w.heap.size]? = some (.cells #[.int .i64 0, .slice none 0 0] 41) := by rw [hc1.block _ (by omega) (by omega)]; exact hx
  clear hn hO ha hs0
  obtain ⟨n0, n1⟩ := hn2
  go_wp2_with fail
  refine (l03DrawWord_any n most p _ _ hs1 (by omega) (by omega) hm0 hm).mono ?_
  rintro e w2 ⟨r, xs, rfl, hO2, hl2, hl3, hs2, hc2⟩
  have hx2 : w2.heap[w.heap.size]? = some (.cells #[.int .i64 0, .slice none 0 0] 41) := by rw [hc2.block _ (by omega) (by omega)]; exact hx1
  obtain ⟨q0, q1, f0, f1, hg⟩ := box2 hx2
  obtain ⟨A2, c2, rfl, -⟩ := id (hO2.sl (Nat.le_refl _))
  obtain ⟨e0, e1, e2⟩ := two_sets w2 w.heap.size (.int .i64 n) (.slice A2 xs.length c2) q0 q1
  go_wp2_with fail
  refine bodyPost_ret (v := .agg #[.int .i64 n, .slice A2 xs.length c2]) (by simp [results, Try.results101, go_sem, e1, e2]) rfl ?_
  have hz2 := hc2.size
  have hbs : Below w.heap.size w2 ((w2.setCell ⟨w.heap.size, 0, none⟩ (.int .i64 n)).setCell ⟨w.heap.size, 1, none⟩ (.slice A2 xs.length c2)) := set_below (Nat.le_refl _) (set_below (Nat.le_refl _) (Below.refl _ _))
  refine ⟨n, _, xs, rfl, ?_, hl2, hl3, ⟨n0, n1⟩, (hs2.below hbs hp).mono (by omega), (chg_fresh hA (hc1.trans hc2)).then_below hbs⟩
  refine (hO2.keep fun j h1 h2 => ?_).mono (by omega) (by simp [World.setCell])
  rw [Below.heap_setCell _ _ _ _ (by simp only; omega), Below.heap_setCell _ _ _ _ (by simp only; omega)]
end Go.Proofs.Ytcoocjdkppdlmaa
