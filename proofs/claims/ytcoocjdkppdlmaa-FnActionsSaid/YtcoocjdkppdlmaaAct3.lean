/-
  Contracts: images and their application to a word (the reference's l05Images, l05Apply, ApplyAction).
-/
import Derived.Test.YtcoocjdkppdlmaaAct2
namespace Go.Proofs.Ytcoocjdkppdlmaa
set_option maxRecDepth 10000
open Go.RowKit
def optL (r : Option (List Int)) : List Int := match r with | none => [] | some o => o

theorem okFree_big {n : Int} {xs : List Int} (h : ¬ n ≤ 12) : okFree n xs = false := by
  rw [okFree, inR_no (by omega)]; rfl
set_option maxHeartbeats 800000 in
theorem l05Images_any (v : Value) (xss : List (List Int)) (B : Nat) (w : World) (h : SlS w B v xss) :
    Calls Try.prog 47 #[v] w fun e w' => e = .returned (.bool (okImgs xss)) ∧ w = w' := by
  obtain ⟨A, c, rfl, hl, hm, _, hcells⟩ := h
  unfold maxLen at hm
  have HC := Lib.hid hcells
  clear hcells
  go_enter Try.func47, Try.ntmps47
  go_wp2
  go_loop [4] (fun i => ∃ k : Nat, k ≤ xss.length ∧ i = .int .i64 k ∧ (∀ j, j < k → okFree xss.length (gl xss j) = true)) (fun i => xss.length - (intOf i).toNat)
  case atStart => exact ⟨0, Nat.zero_le _, rfl, fun j hj => absurd hj (Nat.not_lt_zero _)⟩
  case round =>
    obtain ⟨k, hk, rfl, hgood⟩ := hrel
    have HG := Lib.hid hgood
    clear hgood
    by_cases hlt : k < xss.length
    · obtain ⟨b, off, rfl, hbB, hcell⟩ := HC.out (by omega)
      obtain ⟨u, q1, s1⟩ := hcell k hlt
      clear hcell
      cases hok : okFree xss.length (gl xss k)
      · have HF := Lib.hid (show okImgs xss = false by rw [okImgs, rowsOk_false hlt hok, Bool.and_false])
        go_wp2_with (go_at_call 48; refine (l05Ok_any _ _ B _ _ s1).mono ?_; rintro e w2 ⟨rfl, rfl⟩)
        go_ret
        exact ⟨ret_bool HF.out.symm, rfl⟩
      · go_wp2_with (go_at_call 48; refine (l05Ok_any _ _ B _ _ s1).mono ?_; rintro e w2 ⟨rfl, rfl⟩)
        go_round
        case rel =>
          refine ⟨k + 1, by omega, by go_num, fun j hj => ?_⟩
          by_cases hjk : j < k
          · exact HG.out j hjk
          · obtain rfl : j = k := by omega
            exact hok
        case measure => simp [intOf]; omega
    · have HR := Lib.hid (rowsOk_iff.2 fun j hj => HG.out j (by omega))
      have HF := Lib.hid (show okImgs xss = decide ((xss.length : Int) ≤ 12) by
        rw [okImgs, HR.out, Bool.and_true, inR]
        have : decide (0 ≤ (xss.length : Int)) = true := by simp
        rw [this, Bool.true_and])
      go_wp2
      go_ret
      exact ⟨ret_bool HF.out.symm, rfl⟩
/-- What is read while a row is appended to: a slice that lies apart from the row. -/
structure PSrc (w : World) (o : Value) (A : Option Addr) (xs : List Int) : Prop where
  ex : 0 < xs.length → ∃ b off, A = some ⟨b, off, none⟩ ∧ o.ownBlock ≠ some b ∧ b < w.heap.size ∧ ∀ j, j < xs.length → w.cell? ⟨b, off + j, none⟩ = some (.int .i64 (gi xs j))
theorem PSrc.cells {w : World} {o : Value} {A : Option Addr} {xs : List Int} (h : PSrc w o A xs) (hp : 0 < xs.length) : ∃ b off, A = some ⟨b, off, none⟩ ∧ ∀ j, j < xs.length → w.cell? ⟨b, off + j, none⟩ = some (.int .i64 (gi xs j)) := by
  obtain ⟨b, off, e, _, _, hc⟩ := h.ex hp
  exact ⟨b, off, e, hc⟩
theorem PSrc.step {w w' : World} {o o' : Value} {A : Option Addr} {xs : List Int} (h : PSrc w o A xs) (hg : w.grownBy w' o.ownBlock) (hl : o'.ownBlock = o.ownBlock ∨ ∀ g, o'.ownBlock = some g → w.heap.size ≤ g) : PSrc w' o' A xs := by
  refine ⟨fun hp => ?_⟩
  obtain ⟨b, off, e, hne, hlt, hc⟩ := h.ex hp
  refine ⟨b, off, e, ?_, Nat.lt_of_lt_of_le hlt hg.size, fun j hj => ?_⟩
  · rcases hl with hl | hl
    · rw [hl]; exact hne
    · intro hb; have := hl b hb; omega
  · have hb := hg.block b hlt (fun e => hne e.symm)
    have := hc j hj
    simp only [World.cell?] at this ⊢
    rw [hb]; exact this
theorem PSrc.pop {w : World} {g n m cap cap' : Nat} {A : Option Addr} {xs : List Int} {k : Nat} (h : PSrc w (.slice (some ⟨g, 0, none⟩) n cap) A xs) : PSrc (w.drewN k) (.slice (some ⟨g, 0, none⟩) m cap') A xs := ⟨h.ex⟩
theorem grownBy_drewN {w w' : World} {n : Nat} {o : Option Nat} (h : (w.drewN n).grownBy w' o) : w.grownBy w' o := ⟨h.os, h.tape, h.output, h.size, h.block⟩
set_option maxHeartbeats 1600000 in
/-- l05Push, the word read lying apart from the row. -/
theorem l05Push_gen (u : Value) (A : Option Addr) (c : Nat) (os xs : List Int) (lo : Nat) (w : World) (hu : Ow w lo w.heap.size u os) (_hl : xs.length ≤ c) (_hm : c ≤ maxLen) (hs : PSrc w u A xs) (hlo : lo ≤ w.heap.size) (hsz : xs.length ≤ 1000000) (hso : os.length ≤ 1000000) (hbd : ∀ x ∈ xs, -1000 ≤ x ∧ x ≤ 1000) :
    Calls Try.prog 62 #[u, .slice A xs.length c] w fun e w' => ∃ r, e = .returned r ∧ Ow w' lo w'.heap.size r (pushAll os xs) ∧ Below lo w w' := by
  unfold maxLen at _hm
  have HBD := Lib.hid hbd
  clear hbd
  go_enter Try.func62, Try.ntmps62
  go_wp2
  go_loopw [0, 5] (fun o i wr => ∃ k : Nat, k ≤ xs.length ∧ i = .int .i64 k ∧ Ow wr lo wr.heap.size o (pushAll os (xs.take k)) ∧ Below lo w wr ∧ Hid (PSrc wr o A xs)) (fun _ i _ => xs.length - (intOf i).toNat)
  case atStart => exact ⟨0, Nat.zero_le _, rfl, hu, Below.refl _ _, Lib.hid hs⟩
  case round =>
    obtain ⟨k, hk, rfl, hO, hb, HSR⟩ := hrel
    by_cases hlt : k < xs.length
    · obtain ⟨b, off, rfl, hcell⟩ := HSR.out.cells (by omega)
      have q1 : wr.cell? ⟨b, off + k, none⟩ = some (.int .i64 (gi xs k)) := hcell k hlt
      obtain ⟨y1, y2⟩ := HBD.out _ (gi_mem hlt)
      have hrl := pushAll_len os (xs.take k)
      rw [List.length_take] at hrl
      have hst := pushAll_take (out := os) hlt
      have hsz2 : lo ≤ wr.heap.size := Nat.le_trans hlo hb.size
      clear hcell
      generalize hR : pushAll os (xs.take k) = R at *
      generalize hR' : pushAll os (xs.take (k + 1)) = R' at *
      have HR' := Lib.hid hR'
      clear hR hR'
      rcases hO.form with ⟨rfl, rfl⟩ | ⟨g, cap, rfl, hlo, hhi, hcap, hcap2, hcl⟩
      · have HST : Hid (R' = [gi xs k]) := Lib.hid (by rw [hst, push_on (.inl rfl)]; rfl)
        clear hst
        go_wp2
        go_quiet (fail)
        go_wp2_with (at_builtin; refine wpList_append_one rfl _ _ rfl (wr.drewN nq) _ _ _ _ (gi xs k) rfl rfl (hO.dr _) hsz2 (by simp) ?_; intro v1 w2 hO2 hg2 hown)
        have hbw := (below_drewN hb _).trans ((hO.dr _).grown hg2 (Nat.le_refl _) hsz2)
        go_roundw
        case rel => exact ⟨k + 1, by omega, by go_num, by rw [HR'.out, HST.out]; exact hO2, hbw, Lib.hid (HSR.out.step (by first | exact hg2 | exact grownBy_drewN hg2) (by first | exact hown | exact hown))⟩
        case measure => simp [intOf]; omega
      · rcases Nat.eq_zero_or_pos R.length with h0 | hpos
        · obtain rfl := List.eq_nil_of_length_eq_zero h0
          have HST : Hid (R' = [gi xs k]) := Lib.hid (by rw [hst, push_on (.inl rfl)]; rfl)
          clear hst hcl h0
          go_wp2
          go_quiet (fail)
          go_wp2_with (at_builtin; refine wpList_append_one rfl _ _ rfl (wr.drewN nq) _ _ _ _ (gi xs k) rfl rfl (hO.dr _) hsz2 (by simp) ?_; intro v1 w2 hO2 hg2 hown)
          have hbw := (below_drewN hb _).trans ((hO.dr _).grown hg2 (Nat.le_refl _) hsz2)
          go_roundw
          case rel => exact ⟨k + 1, by omega, by go_num, by rw [HR'.out, HST.out]; exact hO2, hbw, Lib.hid (HSR.out.step (by first | exact hg2 | exact grownBy_drewN hg2) (by first | exact hown | exact hown))⟩
          case measure => simp [intOf]; omega
        · have q2 := hcl (R.length - 1) (by omega)
          clear hcl
          by_cases he : gi R (R.length - 1) = -gi xs k
          · have heb : (gi R (R.length - 1) == -gi xs k) = true := by simp [he]
            have HST : Hid (R' = R.dropLast) := Lib.hid (by rw [hst]; exact push_back hpos he)
            have hO2 := hO.pop hpos
            clear hst he
            go_wp2
            go_quiet (fail)
            go_wp2
            go_roundw
            case rel => exact ⟨k + 1, by omega, by go_num, by rw [HR'.out, HST.out]; exact hO2.dr _, below_drewN hb _, Lib.hid HSR.out.pop⟩
            case measure => simp [intOf]; omega
          · have heb : (gi R (R.length - 1) == -gi xs k) = false := by simp [he]
            have HST : Hid (R' = R ++ [gi xs k]) := Lib.hid (by rw [hst]; exact push_on (.inr he))
            clear hst he
            go_wp2
            go_quiet (fail)
            go_wp2_with (at_builtin; refine wpList_append_one rfl _ _ rfl (wr.drewN nq) _ _ _ _ (gi xs k) rfl rfl (hO.dr _) hsz2 (by omega) ?_; intro v1 w2 hO2 hg2 hown)
            have hbw := (below_drewN hb _).trans ((hO.dr _).grown hg2 (Nat.le_refl _) hsz2)
            go_roundw
            case rel => exact ⟨k + 1, by omega, by go_num, by rw [HR'.out, HST.out]; exact hO2, hbw, Lib.hid (HSR.out.step (by first | exact hg2 | exact grownBy_drewN hg2) (by first | exact hown | exact hown))⟩
            case measure => simp [intOf]; omega
    · obtain rfl : k = xs.length := by omega
      rw [List.take_of_length_le (Nat.le_refl _)] at hO
      go_wp2
      go_ret
      exact ⟨_, rfl, hO, hb⟩
set_option maxHeartbeats 1600000 in
theorem l05Apply_any (v u : Value) (xss : List (List Int)) (ys : List Int) (B : Nat) (w : World) (h : SlS w B v xss) (h2 : Sl w B u ys) (hB : B ≤ w.heap.size) (hok : okImgs xss = true) (hok2 : okFree xss.length ys = true) :
    Calls Try.prog 49 #[v, u] w fun e w' => ∃ r, e = .returned (.tuple #[r, .bool (appGo xss [] ys).isSome]) ∧ Ow w' w.heap.size w'.heap.size r (optL (appGo xss [] ys)) ∧ Below w.heap.size w w' := by
  obtain ⟨A, c, rfl, hl, hm, -, hcells⟩ := id h
  unfold maxLen at hm
  obtain ⟨A2, c2, rfl, hl2, hm2, -, hcells2⟩ := id h2
  unfold maxLen at hm2
  have HC := Lib.hid hcells
  have HC2 := Lib.hid hcells2
  have HOK := Lib.hid hok
  have HOK2 := Lib.hid hok2
  have hn12 := (okImgs_parts hok).1
  have hO := Ow.empty w
  have ha := al1 w (.cells #[] 2)
  clear hcells hcells2 hok hok2
  go_enter Try.func49, Try.ntmps49
  go_wp2_with fail
  go_loopw [6, 7] (fun o i wr => ∃ (k : Nat) (out : List Int), k ≤ ys.length ∧ i = .int .i64 k ∧ Ow wr w.heap.size wr.heap.size o out ∧ out.length ≤ 20000 ∧ appGo xss [] ys = appGo xss out (ys.drop k) ∧ Below w.heap.size w wr) (fun _ i _ => ys.length - (intOf i).toNat)
  case atStart => exact ⟨0, [], Nat.zero_le _, rfl, hO, by simp, rfl, ha⟩
  case round =>
    obtain ⟨k, out, hk, rfl, hO, hol, he, hb⟩ := hrel
    have HE := Lib.hid he
    clear he
    by_cases hlt : k < ys.length
    · obtain ⟨b, off, rfl, hbB, hcell⟩ := HC2.out (by omega)
      have q1 : wr.cell? ⟨b, off + k, none⟩ = some (.int .i64 (gi ys k)) := by rw [hb.cell (by simp only; omega)]; exact hcell k hlt
      obtain ⟨l1, l2, l3, l4⟩ := free_letter HOK2.out hlt
      obtain ⟨b2, off2, rfl, hbB2, hcell2⟩ := HC.out (by omega)
      obtain ⟨u3, q0, s0⟩ := hcell2 _ l2
      obtain ⟨m, hm0⟩ : ∃ m, (ab (gi ys k) - 1).toNat = m := ⟨_, rfl⟩
      have hz : gi ys k ≠ 0 := by unfold ab at l1; omega
      rw [hm0] at l2 q0 s0
      have q2 : wr.cell? ⟨b2, off2 + m, none⟩ = some u3 := by rw [hb.cell (by simp only; omega)]; exact q0
      have s1 := s0.below hb hB
      obtain ⟨r1, r2⟩ := imgs_row HOK.out l2
      have HR := Lib.hid r2
      have hsz2 := hb.size
      have hlm : (m : Int) < xss.length := by omega
      clear hcell hcell2 q0 s0 r2
      by_cases hg : 0 < gi ys k
      · have hgm : gi ys k - 1 = (m : Int) := by unfold ab at hm0 l1; omega
        have HIA := Lib.hid (show imgA xss (gi ys k) = gl xss m by rw [imgA, if_pos hg, hm0])
        clear hm0 l1
        go_wp2_with fail
        refine (l05Push_any _ _ out (gl xss m) w.heap.size B _ hO s1 hB hsz2 (by omega) (by omega) (fun x hx => by have := HR.out x hx; omega)).mono ?_
        rintro e w3 ⟨r3, rfl, hO2, hb5⟩
        rw [← HIA.out] at hO2
        obtain ⟨A5, c5, rfl, -⟩ := id (hO2.sl (Nat.le_refl _))
        have hb6 := hb.trans hb5
        by_cases hlo : (pushAll out (imgA xss (gi ys k))).length ≤ 20000
        · have hli : ¬ 20000 < ((pushAll out (imgA xss (gi ys k))).length : Int) := by omega
          have HN := Lib.hid (HE.out.trans (appGo_on hlt hlo))
          go_wp2_with fail
          go_roundw
          case rel => exact ⟨k + 1, _, by omega, by go_num, hO2, hlo, HN.out, hb6⟩
          case measure => simp [intOf]; omega
        · have hli : 20000 < ((pushAll out (imgA xss (gi ys k))).length : Int) := by omega
          have HN := Lib.hid (HE.out.trans (appGo_off hlt hlo))
          go_wp2_with fail
          go_ret2
          exact ⟨_, by rw [HN.out]; rfl, by rw [HN.out]; exact Ow.nil _ _ _, hb6⟩
      · have hgm : -gi ys k - 1 = (m : Int) := by unfold ab at hm0 l1; omega
        have HIA := Lib.hid (show imgA xss (gi ys k) = inv (gl xss m) by rw [imgA, if_neg hg, hm0])
        clear hm0 l1
        go_wp2_with fail
        refine (l03Inverse_any _ _ B _ s1 (Nat.le_trans hB hb.size) (by omega) (fun x hx => by have := HR.out x hx; omega)).mono ?_
        rintro e w4 ⟨r4, rfl, ho4, hb4⟩
        have hO4 := hO.below hb4 (Nat.le_refl _)
        go_wp2_with fail
        obtain ⟨A4, c4, e4, hl4, hm4, -, hc4⟩ := id (ho4.sl (Nat.le_refl _))
        subst e4
        have hsrc : PSrc w4 u6 A4 (inv (gl xss m)) := by
          refine ⟨fun hp => ?_⟩
          obtain ⟨b4, o4, e4, hb4', hcc⟩ := hc4 hp
          refine ⟨b4, o4, e4, fun e => ?_, hb4', hcc⟩
          have h7 := hO.2 b4 e
          rcases ho4.1.2 with ⟨h8, _⟩ | ⟨g, cap, cur, h8, h9, _⟩
          · injection h8 with h8; rw [h8] at e4; cases e4
          · injection h8 with h8 _ _
            rw [e4] at h8
            injection h8 with h8
            injection h8 with h8
            omega
        refine (l05Push_gen _ A4 c4 out (inv (gl xss m)) w.heap.size _ (hO4.mono (Nat.le_refl _) hb4.size) hl4 hm4 hsrc (Nat.le_trans hsz2 hb4.size) (by rw [inv_len]; omega) (by omega) (fun x hx => by have := HR.out _ (inv_mem hx); omega)).mono ?_
        rintro e w3 ⟨r3, rfl, hO2, hb5⟩
        rw [← HIA.out] at hO2
        obtain ⟨A5, c5, rfl, -⟩ := id (hO2.sl (Nat.le_refl _))
        have hb6 := (hb.trans (hb4.mono hsz2)).trans hb5
        by_cases hlo : (pushAll out (imgA xss (gi ys k))).length ≤ 20000
        · have hli : ¬ 20000 < ((pushAll out (imgA xss (gi ys k))).length : Int) := by omega
          have HN := Lib.hid (HE.out.trans (appGo_on hlt hlo))
          go_wp2_with fail
          go_roundw
          case rel => exact ⟨k + 1, _, by omega, by go_num, hO2, hlo, HN.out, hb6⟩
          case measure => simp [intOf]; omega
        · have hli : 20000 < ((pushAll out (imgA xss (gi ys k))).length : Int) := by omega
          have HN := Lib.hid (HE.out.trans (appGo_off hlt hlo))
          go_wp2_with fail
          go_ret2
          exact ⟨_, by rw [HN.out]; rfl, by rw [HN.out]; exact Ow.nil _ _ _, hb6⟩
    · obtain rfl : k = ys.length := by omega
      have HN := Lib.hid (show appGo xss [] ys = some out by rw [HE.out, List.drop_length]; rfl)
      go_wp2_with fail
      go_ret2
      exact ⟨_, by rw [HN.out]; rfl, by rw [HN.out]; exact hO, hb⟩
set_option maxHeartbeats 800000 in
theorem spec_ApplyAction_any (v u : Value) (xss : List (List Int)) (ys : List Int) (B : Nat) (w : World) (h : SlS w B v xss) (h2 : Sl w B u ys) (hB : B ≤ w.heap.size) :
    Calls Try.prog 11 #[v, u] w fun e w' => ∃ r, e = .returned (.tuple #[r, .int .i64 (appA xss ys).2]) ∧ Ow w' w.heap.size w'.heap.size r (appA xss ys).1 ∧ Below w.heap.size w w' := by
  obtain ⟨A, c, rfl, -⟩ := id h
  cases hok : okImgs xss
  · have H1 := Lib.hid (show appA xss ys = ([], 1) by simp [appA, hok])
    go_enter Try.func11, Try.ntmps11
    go_wp2_with (go_at_call 47; refine (l05Images_any _ xss B _ h).mono ?_; rintro e w1 ⟨rfl, rfl⟩)
    go_ret2
    exact ⟨_, by rw [H1.out]; rfl, by rw [H1.out]; exact Ow.nil _ _ _, Below.refl _ _⟩
  · cases hok2 : okFree xss.length ys
    · have H1 := Lib.hid (show appA xss ys = ([], 1) by simp [appA, hok2])
      go_enter Try.func11, Try.ntmps11
      go_wp2_with (first | (go_at_call 47; refine (l05Images_any _ xss B _ h).mono ?_; rintro e w1 ⟨rfl, rfl⟩) | (go_at_call 48; refine (l05Ok_any _ ys B _ _ h2).mono ?_; rintro e w1 ⟨rfl, rfl⟩))
      go_ret2
      exact ⟨_, by rw [H1.out]; rfl, by rw [H1.out]; exact Ow.nil _ _ _, Below.refl _ _⟩
    · have H1 := Lib.hid (show appA xss ys = appOf (appGo xss [] ys) by unfold appA; rw [if_pos ⟨hok, hok2⟩])
      cases hr : appGo xss [] ys with
      | none =>
        have hs : (appGo xss [] ys).isSome = false := by rw [hr]; rfl
        have HR := Lib.hid hr
        clear hr
        go_enter Try.func11, Try.ntmps11
        go_wp2_with (first | (go_at_call 47; refine (l05Images_any _ xss B _ h).mono ?_; rintro e w1 ⟨rfl, rfl⟩) | (go_at_call 48; refine (l05Ok_any _ ys B _ _ h2).mono ?_; rintro e w1 ⟨rfl, rfl⟩) | (go_at_call 49; refine (l05Apply_any _ _ xss ys B _ h h2 hB hok hok2).mono ?_; rintro e w1 ⟨r1, rfl, ho, hb⟩))
        go_ret2
        exact ⟨_, by rw [H1.out, HR.out]; rfl, by rw [H1.out, HR.out]; exact Ow.nil _ _ _, hb⟩
      | some o =>
        have hs : (appGo xss [] ys).isSome = true := by rw [hr]; rfl
        have HR := Lib.hid hr
        clear hr
        go_enter Try.func11, Try.ntmps11
        go_wp2_with (first | (go_at_call 47; refine (l05Images_any _ xss B _ h).mono ?_; rintro e w1 ⟨rfl, rfl⟩) | (go_at_call 48; refine (l05Ok_any _ ys B _ _ h2).mono ?_; rintro e w1 ⟨rfl, rfl⟩) | (go_at_call 49; refine (l05Apply_any _ _ xss ys B _ h h2 hB hok hok2).mono ?_; rintro e w1 ⟨r1, rfl, ho, hb⟩))
        go_ret2
        rw [HR.out] at ho
        exact ⟨_, by rw [H1.out, HR.out]; rfl, by rw [H1.out, HR.out]; exact ho, hb⟩
end Go.Proofs.Ytcoocjdkppdlmaa
