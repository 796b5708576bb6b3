/-
  Contracts: the reference's normal form of a list of permutations (l04FlipAll, l04Settle).
-/
import Derived.Test.YtcinnbkhnonijaaGw
import Derived.Test.YtcinnbkhnonijaaKss
import Derived.Deep.LoopGhost
import Derived.Lib.QuietBelow
import Derived.BigGuardPart
namespace Go.Proofs.Ytcinnbkhnonijaa
set_option maxRecDepth 10000
open Go.RowKit

def pg (L : List Pm) (i : Nat) : Pm := L.getD i pOne
theorem pg_eq {L : List Pm} {i : Nat} (h : i < L.length) : pg L i = L[i] := by simp [pg, List.getD, h]
theorem pg_mem {L : List Pm} {i : Nat} (h : i < L.length) : pg L i ∈ L := by rw [pg_eq h]; exact List.getElem_mem h
def rowsP (n : Nat) (L : List Pm) : List (List Int) := L.map (toL n)
theorem rowsP_len (n : Nat) (L : List Pm) : (rowsP n L).length = L.length := by simp [rowsP]
theorem rowsP_gl {n : Nat} {L : List Pm} {i : Nat} (h : i < L.length) : gl (rowsP n L) i = toL n (pg L i) := by rw [gl_eq (by rw [rowsP_len]; exact h), pg_eq h]; simp [rowsP]
theorem rowsP_set (n : Nat) (L : List Pm) (i : Nat) (p : Pm) : (rowsP n L).set i (toL n p) = rowsP n (L.set i p) := by simp [rowsP, List.map_set]
theorem rowsP_snoc (n : Nat) (L : List Pm) (p : Pm) : rowsP n (L ++ [p]) = rowsP n L ++ [toL n p] := by simp [rowsP]
/-- A move at a place. -/
theorem mv_at {n : Int} {L : List Pm} {i : Nat} (h : i + 1 < L.length) {k : Int} (k0 : 0 < k) (k1 : k < n) (hf : ¬ Fi k (pg L i)) (hs : Sta k (pg L (i + 1))) :
    Mv n L ((L.set i (beh (pg L i) k)).set (i + 1) (bef k (pg L (i + 1)))) := by
  induction L generalizing i with
  | nil => simp at h
  | cons p L ih =>
    cases i with
    | zero =>
      cases L with
      | nil => simp at h
      | cons q r => exact .here p q r k k0 k1 hf hs
    | succ i =>
      have := ih (i := i) (by simpa using h) hf hs
      exact .cons p this
theorem irr_at {n : Int} {L : List Pm} (h : ∀ i, i + 1 < L.length → ∀ k : Int, 0 < k → k < n → Sta k (pg L (i + 1)) → Fi k (pg L i)) : Irr n L := by
  intro b hb
  induction hb with
  | here p q r k k0 k1 hf hs => exact hf (h 0 (by simp) k k0 k1 hs)
  | cons p _ ih => exact ih fun i hi k k0 k1 hs => h (i + 1) (by simp; omega) k k0 k1 hs
theorem flip_rows (L : List Pm) (n : Nat) (k : Nat) (h : k < L.length) : (L.take (k + 1)).map (pFlip n) = (L.take k).map (pFlip n) ++ [pFlip n (pg L k)] := by
  rw [List.take_succ_eq_append_getElem h, List.map_append, pg_eq h]; rfl
set_option maxHeartbeats 1600000 in
theorem l04FlipAll_any (v : Value) (n : Nat) (L : List Pm) (B : Nat) (w : World) (h : SlS w B v (rowsP n L)) (hB : B ≤ w.heap.size) (hn : n ≤ 1000) (hL : Sups n L) (hsz : L.length ≤ 100000) :
    Calls Try.prog 74 #[v] w fun e w' => ∃ r, e = .returned r ∧ OwS w' (Iv w.heap.size w'.heap.size) r (rowsP n (L.map (pFlip n))) ∧ Below w.heap.size w w' := by
  obtain ⟨A, c, rfl, hl, hm, -, hcells⟩ := h
  unfold maxLen at hm
  rw [rowsP_len] at *
  have HC := Lib.hid hcells
  have HL := Lib.hid hL
  clear hcells hL
  have hO : OwS _ _ _ (rowsP n ((L.take 0).map (pFlip n))) := OwS.empty w
  have ha := al1 w (.cells #[] 24)
  go_enter Try.func74, Try.ntmps74
  go_wp2
  go_loopw [3, 4] (fun o i wr => ∃ k : Nat, k ≤ L.length ∧ i = .int .i64 k ∧ OwS wr (Iv w.heap.size wr.heap.size) o (rowsP n ((L.take k).map (pFlip n))) ∧ Below w.heap.size w wr) (fun _ i _ => L.length - (intOf i).toNat)
  case atStart => exact ⟨0, Nat.zero_le _, rfl, hO, ha⟩
  case round =>
    obtain ⟨k, hk, rfl, hO, hb⟩ := hrel
    obtain ⟨wk, hwk⟩ : ∃ x, x = wr := ⟨_, rfl⟩
    subst hwk
    by_cases hlt : k < L.length
    · obtain ⟨b, off, rfl, hbB, hcell⟩ := HC.out (by omega)
      obtain ⟨u, q0, s0⟩ := hcell k hlt
      rw [rowsP_gl hlt] at s0
      have q1 : wk.cell? ⟨b, off + k, none⟩ = some u := by rw [hb.cell (by simp only; omega)]; exact q0
      have s1 := s0.below hb hB
      have hp := HL.out _ (pg_mem hlt)
      have HS := Lib.hid (flip_rows L n k hlt)
      have hrl : (rowsP n ((L.take k).map (pFlip n))).length ≤ 1000000 := by rw [rowsP_len]; simp; omega
      have hsz1 := hb.size
      clear hcell q0 s0
      go_wp2_with fail
      refine (l04Flip_any _ n (pg L k) B _ s1 (Nat.le_trans hB hb.size) hn hp).mono ?_
      rintro e w5 ⟨r5, rfl, ho5, hb6⟩
      have hO5 := hO.below hb6 (Nat.le_refl _)
      have hsz5 := hb6.size
      obtain ⟨A5, c5, rfl, -⟩ := id (ho5.sl (Nat.le_refl _))
      go_wp2_with (at_builtin; refine wpList_append_row rfl _ _ rfl _ _ _ _ _ _ _ rfl rfl hO5 ho5 hsz1 hsz5 hrl ?_; intro v1 w6 hO6 hb7)
      rw [← rowsP_snoc, ← HS.out] at hO6
      go_roundw
      case rel => exact ⟨k + 1, by omega, by go_num, hO6, (hb.trans (hb6.mono hsz1)).trans hb7⟩
      case measure => simp [intOf]; omega
    · obtain rfl : k = L.length := by omega
      rw [List.take_length] at hO
      go_wp2
      go_ret
      exact ⟨_, rfl, hO, hb⟩
/-- append of all rows to a slice of the call's own without rows: the rows' own slice, its rows where they were. -/
theorem wpList_append_rows {ops : Array Oper} {rest : List Oper} {o : Oper} {a : Act} {Q : Exit → Act → World → Prop} (hgd : o.guard = none) (s x : Operand)
    (ho : o.op = .call { callee := .builtin .append, args := #[s, x], argTypes := #[57, 57] })
    (w : World) (lo hi : Nat) (d u : Value) (xss : List (List Int)) (hs : a.eval s = d) (hx : a.eval x = u)
    (hd : OwR 24 1 w hi w.heap.size d 0 []) (hu : OwS w (Iv lo hi) u xss) (hhi : hi ≤ w.heap.size) (hlo : lo ≤ hi) (hlen : xss.length ≤ 1000000)
    (h : ∀ v' w', OwS w' (Iv lo w'.heap.size) v' xss → Below hi w w' → wpList Try.prog ops Q rest (a.put o.dst v') w') :
    wpList Try.prog ops Q (o :: rest) a w := by
  obtain ⟨i0, hi0, hz0, hz1, hz2⟩ := info_parts sl_info
  obtain ⟨vs, tag, h1, h2, h3, h4⟩ := hu
  have fin : ∀ v' w', w'.ownsRow hi 24 1 v' xss.length vs → w.grownBy w' d.ownBlock → OwS w' (Iv lo w'.heap.size) v' xss ∧ Below hi w w' := by
    intro v' w' hv hg
    have hb : Below hi w w' := hd.grown hg (Nat.le_refl _) hhi
    have hsz := hb.size
    refine ⟨⟨vs, fun b => if hi ≤ b then 0 else if u.ownBlock = some b then xss.length + 1 else tag b, ⟨hv.1, ?_⟩, fun g hgv => ?_, h3, fun k y hy => ?_⟩, hb⟩
    · rcases hv.2 with h5 | ⟨g, cap, cur, e, hlo2, r⟩
      · exact .inl h5
      · exact .inr ⟨g, cap, cur, e, Nat.zero_le _, r⟩
    · have := hv.lt g hgv
      exact ⟨⟨by omega, this.2⟩, by simp only; rw [if_pos this.1]⟩
    · have h5 := h4 k y hy
      have hk : k < vs.length := (List.getElem?_eq_some_iff.1 hy).1
      refine ⟨ownsRow_keep h5.1 fun g hgx => hb.block g (h5.2 g hgx).1.2, fun g hgx => ?_⟩
      obtain ⟨⟨a1, b1⟩, c1⟩ := h5.2 g hgx
      refine ⟨⟨a1, by omega⟩, ?_⟩
      simp only
      rw [if_neg (by omega), if_neg ?_]
      · exact c1
      · intro e
        have := (h2 g e).2
        omega
  refine wpList_plain hgd fun K hK => ?_
  rcases h1.2 with ⟨rfl, h0⟩ | ⟨g, cap, cur, rfl, hlo2, hh, hn, hcap, hcs, htake⟩
  · have hv0 : vs = [] := List.eq_nil_of_length_eq_zero (by omega)
    have hr := run_append_owned_none (P := Try.prog) w hi 57 o.type 24 i0 1 Try.underlying57 hi0 d 0 [] hd.1
    unfold Oper.wp execOp
    simp only [ho, resolve, invoke, builtin, Sem.run_bind, Sem.run_pure, Result.andThen_ok, List.map_toArray, List.map_cons, List.map_nil, hs, hx, hr]
    obtain ⟨f1, f2⟩ := fin d w (by rw [h0, hv0]; exact hd.1) (World.grownBy.refl _ _)
    exact hK _ _ (h d w f1 f2)
  · have hc : ∀ j u, vs[j]? = some u → w.cell? ((⟨g, 0, none⟩ : Addr).add j) = some u := by
      intro j u hu
      rw [Addr.add_lit, Nat.zero_add, h1.cellAt j (by have := (List.getElem?_eq_some_iff.1 hu).1; omega), hu]
    have hone : ∀ u ∈ vs, u.oneCell' = true := by
      intro u hu
      obtain ⟨j, hj, rfl⟩ := List.getElem_of_mem hu
      have := (h4 j vs[j] (List.getElem?_eq_getElem hj)).1
      rcases this.2 with ⟨e, _⟩ | ⟨_, _, _, e, _⟩ <;> rw [e] <;> rfl
    obtain ⟨v', w', hr, k2, k3, k4⟩ := run_append_own_at (P := Try.prog) w hi 57 o.type 24 i0 (.slice none 0 0) 1 24 Try.underlying57 hi0 hz0 hz1 hz2 rfl (by decide) d 0 [] hd.1
      ⟨g, 0, none⟩ xss.length cap vs (by omega) hc hone (by simp only [maxLen]; omega) (by omega) hhi
    unfold Oper.wp execOp
    simp only [ho, resolve, invoke, builtin, Sem.run_bind, Sem.run_pure, Result.andThen_ok, List.map_toArray, List.map_cons, List.map_nil, hs, hx, hr]
    obtain ⟨f1, f2⟩ := fin v' w' (by rw [Nat.zero_add, List.nil_append] at k2; exact k2) k3
    exact hK _ _ (h v' w' f1 f2)
open Classical in
/-- How many are half twists and not the identity; how many are neither. -/
noncomputable def hcN (n : Int) : List Pm → Nat
  | [] => 0
  | p :: N => (if p ≠ pOne ∧ p = pHalf n then 1 else 0) + hcN n N
open Classical in
noncomputable def rcN (n : Int) : List Pm → Nat
  | [] => 0
  | p :: N => (if p ≠ pOne ∧ p ≠ pHalf n then 1 else 0) + rcN n N
theorem hcN_append (n : Int) (a b : List Pm) : hcN n (a ++ b) = hcN n a + hcN n b := by
  induction a with
  | nil => simp [hcN]
  | cons p a ih => simp only [List.cons_append, hcN, ih, Nat.add_assoc]
theorem rcN_append (n : Int) (a b : List Pm) : rcN n (a ++ b) = rcN n a + rcN n b := by
  induction a with
  | nil => simp [rcN]
  | cons p a ih => simp only [List.cons_append, rcN, ih, Nat.add_assoc]
theorem take_pg {L : List Pm} {k : Nat} (h : k < L.length) : L.take (k + 1) = L.take k ++ [pg L k] := by rw [List.take_succ_eq_append_getElem h, pg_eq h]
theorem cnt_one {n : Int} {L : List Pm} {k : Nat} (h : k < L.length) (e : pg L k = pOne) : hcN n (L.take (k + 1)) = hcN n (L.take k) ∧ rcN n (L.take (k + 1)) = rcN n (L.take k) := by
  rw [take_pg h, hcN_append, rcN_append, e]; simp [hcN, rcN]
theorem cnt_half {n : Int} {L : List Pm} {k : Nat} (h : k < L.length) (e1 : pg L k ≠ pOne) (e : pg L k = pHalf n) : hcN n (L.take (k + 1)) = hcN n (L.take k) + 1 ∧ rcN n (L.take (k + 1)) = rcN n (L.take k) := by
  rw [take_pg h, hcN_append, rcN_append]
  rw [e] at e1 ⊢
  simp [hcN, rcN, e1]
theorem cnt_else {n : Int} {L : List Pm} {k : Nat} (h : k < L.length) (e1 : pg L k ≠ pOne) (e : pg L k ≠ pHalf n) : hcN n (L.take (k + 1)) = hcN n (L.take k) ∧ rcN n (L.take (k + 1)) = rcN n (L.take k) + 1 := by
  rw [take_pg h, hcN_append, rcN_append]
  simp [hcN, rcN, e1, e]
theorem hcN_le (n : Int) (L : List Pm) : hcN n L ≤ L.length := by
  induction L with
  | nil => simp [hcN]
  | cons p L ih => simp only [hcN, List.length_cons]; split <;> omega
theorem rcN_le (n : Int) (L : List Pm) : rcN n L ≤ L.length := by
  induction L with
  | nil => simp [rcN]
  | cons p L ih => simp only [rcN, List.length_cons]; split <;> omega
/-- What the reference asks of a normal form is what a trivial braid's list comes to. -/
theorem triv_counts (n : Int) (N : List Pm) (m : Nat) : ((∀ p ∈ N, p = pOne ∨ p = pHalf n) ∧ cntN N = m) ↔ (rcN n N = 0 ∧ hcN n N = m) := by
  have h1 : ∀ N, rcN n N = 0 ↔ ∀ p ∈ N, p = pOne ∨ p = pHalf n := by
    intro N
    induction N with
    | nil => simp [rcN]
    | cons p N ih =>
      simp only [rcN, List.mem_cons, forall_eq_or_imp, ← ih]
      by_cases e1 : p = pOne <;> by_cases e2 : p = pHalf n <;> simp [e1, e2]
  have h2 : ∀ N, (∀ p ∈ N, p = pOne ∨ p = pHalf n) → cntN N = hcN n N := by
    intro N
    induction N with
    | nil => intro _; rfl
    | cons p N ih =>
      intro h
      rw [cntN, hcN, ih fun q hq => h q (by simp [hq])]
      by_cases e1 : p = pOne
      · simp [e1]
      · have := (h p (by simp)).resolve_left e1
        rw [this] at e1
        simp [this, e1]
  rw [h1 N]
  constructor
  · rintro ⟨a, b⟩; exact ⟨a, by rw [← h2 N a]; exact b⟩
  · rintro ⟨a, b⟩; exact ⟨a, by rw [h2 N a]; exact b⟩
theorem Mvs.len {n : Int} {a b : List Pm} (h : Mvs n a b) : b.length = a.length := by
  induction h with
  | refl => rfl
  | head h _ ih => rw [ih, h.len]
theorem dec_rows {n : Nat} {p q : Pm} (hp : Sup n p) (hq : Sup n q) : decide (toL n p = toL n q) = true ↔ p = q := by
  rw [decide_eq_true_eq]
  exact ⟨toL_inj hp hq, fun h => by rw [h]⟩
/-- The cells of the outer slice. -/
theorem OwS.cells {w : World} {lo : Nat} {v : Value} {xss : List (List Int)} (h : OwS w (Iv lo w.heap.size) v xss) (hp : 0 < xss.length) :
    ∃ g cap, v = .slice (some ⟨g, 0, none⟩) xss.length cap ∧ lo ≤ g ∧ g < w.heap.size ∧ ∀ k, k < xss.length → w.frozen? ⟨g, k, none⟩ = false ∧ ∃ u, w.cell? ⟨g, k, none⟩ = some u ∧ Sl w w.heap.size u (gl xss k) := by
  obtain ⟨g, cap, x, e1, h1, h2, h3, h4, -, -⟩ := OwS.set_ h 0 hp (Ow.nil w w.heap.size w.heap.size) (Nat.le_refl _)
  refine ⟨g, cap, e1, h1, h2, fun k hk => ?_⟩
  obtain ⟨g', cap', x', e2, -, -, h5, h6, -, -⟩ := OwS.set_ h k hk (Ow.nil w w.heap.size w.heap.size) (Nat.le_refl _)
  obtain ⟨A, c, e3, -, -, -, hrow⟩ := h.sl fun b hb => hb.2
  obtain ⟨b, off, e4, -, hrow⟩ := hrow hp
  obtain ⟨u, q, s⟩ := hrow k hk
  have e5 : g' = g := by rw [e1] at e2; injection e2 with e2 _ _; injection e2 with e2; injection e2 with e2; exact e2.symm
  have e6 : b = g ∧ off = 0 := by
    rw [e1, e4] at e3
    injection e3 with e3 _ _
    injection e3 with e3
    injection e3 with e3 e7 _
    exact ⟨e3.symm, e7.symm⟩
  rw [e5] at h6
  rw [e6.1, e6.2, Nat.zero_add] at q
  exact ⟨h6, u, q, s⟩
theorem OwS.put {w : World} {lo hi g m cap : Nat} {u : Value} {xss : List (List Int)} {xs : List Int} (h : OwS w (Iv lo hi) (.slice (some ⟨g, 0, none⟩) m cap) xss) (k : Nat) (hk : k < xss.length) (hu : Ow w hi w.heap.size u xs) (hhi : hi ≤ w.heap.size) :
    OwS (w.setCell ⟨g, k, none⟩ u) (Iv lo (w.setCell ⟨g, k, none⟩ u).heap.size) (.slice (some ⟨g, 0, none⟩) m cap) (xss.set k xs) ∧ Chg lo hi w (w.setCell ⟨g, k, none⟩ u) := by
  obtain ⟨g', cap', x, e1, -, -, -, -, h1, h2⟩ := OwS.set_ h k hk hu hhi
  injection e1 with e1 _ _
  injection e1 with e1
  injection e1 with e1
  subst e1
  exact ⟨h1, h2⟩
theorem pg_set_same {L : List Pm} {i : Nat} (h : i < L.length) (p : Pm) : pg (L.set i p) i = p := by simp [pg, List.getD, h]
theorem pg_set_ne {L : List Pm} {i j : Nat} (h : i ≠ j) (p : Pm) : pg (L.set i p) j = pg L j := by simp [pg, List.getD, h]
set_option maxHeartbeats 6400000 in
set_option maxRecDepth 1000000 in
theorem l04Settle_any (v : Value) (n : Nat) (L : List Pm) (lo : Nat) (w : World) (h : OwS w (Iv lo w.heap.size) v (rowsP n L)) (hlo : lo ≤ w.heap.size) (hn : n ≤ 1000) (hL : Sups n L) (hsz : L.length ≤ 100000) :
    Calls Try.prog 76 #[.int .i64 n, v] w fun e w' => ∃ N r A c, e = .returned (.tuple #[.int .i64 (hcN n N : Nat), r]) ∧ r = .slice A (rcN n N) c ∧ Mvs n L N ∧ Irr n N ∧ Below lo w w' := by
  have hE := OwR.empty 24 1 w
  have ha := al1 w (.cells #[] 24)
  have h0 := h.below ha (Nat.le_refl _)
  have HLn := Lib.hid hL
  have hrl := rowsP_len n L
  clear hL
  obtain ⟨A0, c0, rfl, -⟩ := id (h.sl fun b hb => hb.2)
  go_enter Try.func76, Try.ntmps76
  go_wp2_with (at_builtin; refine wpList_append_rows rfl _ _ rfl _ lo w.heap.size (.slice (some ⟨w.heap.size, 0, none⟩) 0 0) (.slice A0 (rowsP n L).length c0) (rowsP n L) rfl rfl hE h0 ha.size hlo (by omega) ?_; intro fv w1 hO hb1)
  have hbl : Below lo w w1 := ha.trans hb1 |>.mono hlo
  obtain ⟨A, c, rfl, hl, hm, -⟩ := id (hO.sl fun b hb => hb.2)
  rw [hrl] at hl hO ⊢
  unfold maxLen at hm
  have hmI : (L.length : Int) ≤ 100000 := by omega
  go_wp2_with fail
  go_loopg [7] (2 * wtL n L + 1) (fun num ch wr => ∃ (L1 : List Pm) (b : Bool), ch = .bool b ∧ Hid (num = 2 * wtL n L1 + (if b = true then 1 else 0)) ∧ OwS wr (Iv lo wr.heap.size) (.slice A L.length c) (rowsP n L1) ∧ Hid (Mvs n L L1) ∧ Hid (b = false → Irr n L1) ∧ Below lo w wr)
  case atStart => exact ⟨L, true, rfl, Lib.hid rfl, hO, Lib.hid (.refl _), Lib.hid (by simp), hbl⟩
  case round =>
    obtain ⟨L1, b, rfl, HN, hO1, HM, HI, hb2⟩ := hrel
    obtain ⟨w2, hw2⟩ : ∃ x, x = wr := ⟨_, rfl⟩
    subst hw2
    have hl1 : L1.length = L.length := HM.out.len
    have hlo2 : lo ≤ w2.heap.size := Nat.le_trans hlo hb2.size
    cases b
    · have HIR := Lib.hid (HI.out rfl)
      have HSP := Lib.hid (HM.out.sups HLn.out)
      clear HI HN
      have hE2 := OwR.empty 24 1 w2
      have ha2 := al1 w2 (.cells #[] 24)
      go_wp2_with fail
      go_loopw [10, 11, 12] (fun pw o i wx => ∃ (k : Nat) (us : List Value), k ≤ L.length ∧ i = .int .i64 k ∧ pw = .int .i64 (hcN n (L1.take k) : Nat) ∧ OwR 24 1 wx w2.heap.size wx.heap.size o (rcN n (L1.take k)) us ∧ Below w2.heap.size w2 wx) (fun _ _ i _ => L.length - (intOf i).toNat)
      case atStart => exact ⟨0, [], Nat.zero_le _, rfl, rfl, hE2, ha2⟩
      case round =>
        obtain ⟨k, us, hkL, rfl, rfl, hR, hb3⟩ := hrel
        obtain ⟨wk, hwk⟩ : ∃ x, x = wr := ⟨_, rfl⟩
        subst hwk
        by_cases hlt : k < L.length
        · have hltI : (k : Int) < L.length := by omega
          have hO2 := hO1.below hb3 (Nat.le_refl _)
          have hO3 := hO2.mono (S' := Iv lo wk.heap.size) fun b hb' => ⟨hb'.1, Nat.lt_of_lt_of_le hb'.2 hb3.size⟩
          obtain ⟨g, cap, e4, hg0, hg1, hcel⟩ := hO3.cells (by rw [rowsP_len, hl1]; omega)
          rw [rowsP_len, hl1] at e4 hcel
          injection e4 with e4 _ e5
          subst e4 e5
          obtain ⟨-, u1, q1, s1⟩ := hcel k hlt
          rw [rowsP_gl (by omega)] at s1
          have sp1 := HSP.out _ (pg_mem (show k < L1.length by omega))
          have hh1 := hcN_le n (L1.take k)
          have hh2 := rcN_le n (L1.take k)
          have hh3 : (L1.take k).length ≤ 100000 := by simp; omega
          obtain ⟨A1, c1, rfl, -⟩ := id s1
          have d1 := dec_rows sp1 (Sup.one n)
          have d2 := dec_rows sp1 (Sup.half n)
          have hcnt : k < L1.length := by omega
          clear hcel hO2 hO3
          have HK := Lib.hid (fun w' (hw : Below wk.heap.size wk w') => show w'.cell? ⟨g, k, none⟩ = some (.slice A1 (toL n (pg L1 k)).length c1) ∧ Below wk.heap.size wk w' from ⟨by rw [hw.cell hg1]; exact q1, hw⟩)
          clear q1
          generalize hT : decide (toL n (pg L1 k) = toL n pOne) = T at d1
          generalize hT2 : decide (toL n (pg L1 k) = toL n (pHalf n)) = T2 at d2
          have HT := Lib.hid hT
          have HT2 := Lib.hid hT2
          have D1 := Lib.hid d1
          have D2 := Lib.hid d2
          clear hT hT2 d1 d2
          cases T
          · have e1 : pg L1 k ≠ pOne := fun e => by have := D1.out.2 e; cases this
            go_wp2_with fail
            go_region_held3 (fun w' => w'.cell? ⟨g, k, none⟩ = some (.slice A1 (toL n (pg L1 k)).length c1) ∧ Below wk.heap.size wk w') (exact HK.out _ (by first | assumption | go_grown))
              (first
                | (go_at_call 73; (refine (l04Identity_any n _ hn).mono ?_); rintro e w5 ⟨r5, rfl, ho5, hb5⟩; have hr5 : Below wk.heap.size wk w5 := Below.trans (show Below wk.heap.size wk _ by go_grown) (hb5.mono (Below.size (w := wk) (B := wk.heap.size) (by go_grown))))
                | (go_at_call 83; (refine (l04Is_any HT.out (s1.below hr5 (Nat.le_refl _)) (ho5.sl (Nat.le_refl _))).mono ?_); rintro e w6 ⟨rfl, n6, rfl⟩; have hr6 : Below wk.heap.size wk (w5.drewN n6) := below_drewN hr5 _))

            have q7 := (HK.out _ hr6).1
            have s7 := s1.below hr6 (Nat.le_refl _)
            have hR7 := (hR.below hr6 (Nat.le_refl _)).mono (Nat.le_refl _) hr6.size
            have hb7 := hb3.trans (hr6.mono hb3.size)
            have hg7 : g < (w5.drewN n6).heap.size := Nat.lt_of_lt_of_le hg1 hr6.size
            have s7' := s7.mono hr6.size
            clear ho5 hb5 hr5 hr6 HK hR hb3 s1 hg1 s7
            generalize w5.drewN n6 = w7 at q7 s7' hR7 hb7 hg7 ⊢
            have s7 := s7'
            clear s7'
            have HK7 := Lib.hid (fun w' (hw : Below w7.heap.size w7 w') => show w'.cell? ⟨g, k, none⟩ = some (.slice A1 (toL n (pg L1 k)).length c1) ∧ Below w7.heap.size w7 w' from ⟨by rw [hw.cell hg7]; exact q7, hw⟩)
            clear q7
            cases T2
            · have e2 : pg L1 k ≠ pHalf n := fun e => by have := D2.out.2 e; cases this
              obtain ⟨m1, m2⟩ := cnt_else (n := n) hcnt e1 e2
              have HM1 := Lib.hid m1
              have HM2 := Lib.hid m2
              clear m1 m2 e1 e2
              go_wp2_with fail
              go_region_held3 (fun w' => w'.cell? ⟨g, k, none⟩ = some (.slice A1 (toL n (pg L1 k)).length c1) ∧ Below w7.heap.size w7 w') (exact HK7.out _ (by first | assumption | go_grown))
                (first
                  | (go_at_call 75; (refine (l04Half_any n _ hn).mono ?_); rintro e w8 ⟨r8, rfl, ho8, hb8⟩; have hr8 : Below w7.heap.size w7 w8 := Below.trans (show Below w7.heap.size w7 _ by go_grown) (hb8.mono (Below.size (w := w7) (B := w7.heap.size) (by go_grown))))
                  | (go_at_call 83; (refine (l04Is_any HT2.out (s7.below hr8 (Nat.le_refl _)) (ho8.sl (Nat.le_refl _))).mono ?_); rintro e w9 ⟨rfl, n9, rfl⟩; have hr9 : Below w7.heap.size w7 (w8.drewN n9) := below_drewN hr8 _))
              have q9 := (HK7.out _ hr9).1
              have hR9 := (hR7.below hr9 (Nat.le_refl _)).mono (Nat.le_refl _) hr9.size
              have hb9 := hb7.trans (hr9.mono hb7.size)
              clear ho8 hb8 hr8 hr9 HK7 hR7 hb7 s7 hg7
              generalize w8.drewN n9 = w10 at q9 hR9 hb9 ⊢
              have hsz9 := hb9.size
              go_wp2_with (at_builtin; refine wpList_append_elem (t := 57) (e := 24) (size := 1) (bytes := 24) (z := .slice none 0 0) Try.underlying57 sl_info rfl (by decide) (by decide) rfl _ _ rfl w10 w2.heap.size w10.heap.size u11 (rcN n (L1.take k)) us [.slice A1 (toL n (pg L1 k)).length c1] rfl rfl hR9 hsz9 (by omega) rfl (by simp [Value.oneCell']) ?_; intro v1 w11 hR11 hg11 _)
              have hbw := hR9.grown hg11 (Nat.le_refl _) hsz9
              go_roundw
              case rel => exact ⟨k + 1, _, by omega, by go_num, by rw [HM1.out], by rw [HM2.out]; exact hR11, hb9.trans hbw⟩
              case measure => simp [intOf]; omega
            · obtain ⟨m1, m2⟩ := cnt_half (n := n) hcnt e1 (D2.out.1 rfl)
              have HM1 := Lib.hid m1
              have HM2 := Lib.hid m2
              clear m1 m2 e1
              go_wp2_with fail
              go_region_held3 (fun w' => w'.cell? ⟨g, k, none⟩ = some (.slice A1 (toL n (pg L1 k)).length c1) ∧ Below w7.heap.size w7 w') (exact HK7.out _ (by first | assumption | go_grown))
                (first
                  | (go_at_call 75; (refine (l04Half_any n _ hn).mono ?_); rintro e w8 ⟨r8, rfl, ho8, hb8⟩; have hr8 : Below w7.heap.size w7 w8 := Below.trans (show Below w7.heap.size w7 _ by go_grown) (hb8.mono (Below.size (w := w7) (B := w7.heap.size) (by go_grown))))
                  | (go_at_call 83; (refine (l04Is_any HT2.out (s7.below hr8 (Nat.le_refl _)) (ho8.sl (Nat.le_refl _))).mono ?_); rintro e w9 ⟨rfl, n9, rfl⟩; have hr9 : Below w7.heap.size w7 (w8.drewN n9) := below_drewN hr8 _))
              go_wp2_with fail
              go_roundw
              case rel => exact ⟨k + 1, us, by omega, by go_num, by rw [HM1.out]; go_num, by rw [HM2.out]; exact (hR7.below hr9 (Nat.le_refl _)).mono (Nat.le_refl _) hr9.size, hb7.trans (hr9.mono hb7.size)⟩
              case measure => simp [intOf]; omega
          · obtain ⟨m1, m2⟩ := cnt_one (n := n) hcnt (D1.out.1 rfl)
            have HM1 := Lib.hid m1
            have HM2 := Lib.hid m2
            clear m1 m2
            go_wp2_with fail
            go_region_held3 (fun w' => w'.cell? ⟨g, k, none⟩ = some (.slice A1 (toL n (pg L1 k)).length c1) ∧ Below wk.heap.size wk w') (exact HK.out _ (by first | assumption | go_grown))
              (first
                | (go_at_call 73; (refine (l04Identity_any n _ hn).mono ?_); rintro e w5 ⟨r5, rfl, ho5, hb5⟩; have hr5 : Below wk.heap.size wk w5 := Below.trans (show Below wk.heap.size wk _ by go_grown) (hb5.mono (Below.size (w := wk) (B := wk.heap.size) (by go_grown))))
                | (go_at_call 83; (refine (l04Is_any HT.out (s1.below hr5 (Nat.le_refl _)) (ho5.sl (Nat.le_refl _))).mono ?_); rintro e w6 ⟨rfl, n6, rfl⟩; have hr6 : Below wk.heap.size wk (w5.drewN n6) := below_drewN hr5 _))

            go_wp2_with fail
            go_roundw
            case rel => exact ⟨k + 1, us, by omega, by go_num, by rw [HM1.out], by rw [HM2.out]; exact (hR.below hr6 (Nat.le_refl _)).mono (Nat.le_refl _) hr6.size, hb3.trans (hr6.mono hb3.size)⟩
            case measure => simp [intOf]; omega
        · obtain rfl : k = L.length := by omega
          rw [← hl1, List.take_length] at hR
          obtain ⟨A5, c5, e5⟩ : ∃ A5 c5, u11 = .slice A5 (rcN n L1) c5 := by
            rcases hR.form with ⟨h1, h2, -⟩ | ⟨g, cap, h1, -⟩
            · exact ⟨none, 0, by rw [h1, h2]⟩
            · exact ⟨_, _, h1⟩
          subst e5
          go_wp2_with fail
          go_ret2
          refine ⟨L1, _, A5, c5, ?_, rfl, HM.out, HIR.out, hb2.trans (hb3.mono hlo2)⟩
          rw [← hl1, List.take_length]
          rfl
    · go_wp2_with fail
      go_loopw [7, 8] (fun ch i wm => ∃ (L2 : List Pm) (b2 : Bool) (j : Nat), ch = .bool b2 ∧ i = .int .i64 j ∧ j ≤ L.length ∧ OwS wm (Iv lo wm.heap.size) (.slice A L.length c) (rowsP n L2) ∧ Hid (Mvs n L1 L2) ∧ Hid ((b2 = true ∧ wtL n L2 < wtL n L1) ∨ (b2 = false ∧ L2 = L1 ∧ ∀ t, t < j → t + 1 < L.length → exK n (pg L1 t) (pg L1 (t + 1)) = 0)) ∧ Below lo w wm) (fun _ i _ => L.length - (intOf i).toNat)
      case atStart => exact ⟨L1, false, 0, rfl, rfl, Nat.zero_le _, hO1, Lib.hid (.refl _), Lib.hid (.inr ⟨rfl, rfl, fun t ht => absurd ht (Nat.not_lt_zero _)⟩), hb2⟩
      case round =>
        obtain ⟨L2, b2, j, rfl, rfl, hjL, hO2, HM2, HW2, hb3⟩ := hrel
        obtain ⟨w3, hw3⟩ : ∃ x, x = wr := ⟨_, rfl⟩
        subst hw3
        have hl2 : L2.length = L.length := HM2.out.len.trans hl1
        have hlo3 : lo ≤ w3.heap.size := Nat.le_trans hlo hb3.size
        have hjI : (j : Int) ≤ 100000 := by omega
        by_cases hlt : j + 1 < L.length
        · have hltI : (j : Int) + 1 < L.length := by omega
          have hlt0 : (j : Int) < L.length := by omega
          obtain ⟨g, cap, e4, hg0, hg1, hcel⟩ := hO2.cells (by rw [rowsP_len, hl2]; omega)
          rw [rowsP_len, hl2] at e4 hcel
          injection e4 with e4 _ e5
          subst e4 e5
          obtain ⟨f1, u1, q1, s1⟩ := hcel j (by omega)
          obtain ⟨f2, u2, q2, s2⟩ := hcel (j + 1) hlt
          rw [rowsP_gl (by omega)] at s1 s2
          have HS2 := Lib.hid (HM2.out.sups (HM.out.sups HLn.out))
          have sp1 := HS2.out _ (pg_mem (show j < L2.length by omega))
          have hs1 : ∀ d os, Sl (_root_.Go.Sort.grow (redrawn w3 d) os) w3.heap.size u1 (toL n (pg L2 j)) := fun d os => s1.below (below_regrown _ d os) (Nat.le_refl _)
          have hs2 : ∀ d os, Sl (_root_.Go.Sort.grow (redrawn w3 d) os) w3.heap.size u2 (toL n (pg L2 (j + 1))) := fun d os => s2.below (below_regrown _ d os) (Nat.le_refl _)
          have hz : ∀ d os, w3.heap.size ≤ (_root_.Go.Sort.grow (redrawn w3 d) os).heap.size := fun d os => (below_regrown _ d os).size
          have HS := Lib.hid hs1
          have HT := Lib.hid hs2
          have HZ := Lib.hid hz
          obtain ⟨A1, c1, rfl, -⟩ := id s1
          obtain ⟨A2, c2, rfl, -⟩ := id s2
          have hc1 : ∀ d os, (_root_.Go.Sort.grow (redrawn w3 d) os).cell? ⟨g, j, none⟩ = some (.slice A1 (toL n (pg L2 j)).length c1) := fun d os => by rw [(below_regrown w3 d os).cell hg1]; exact q1
          have hc2 : ∀ d os, (_root_.Go.Sort.grow (redrawn w3 d) os).cell? ⟨g, j + 1, none⟩ = some (.slice A2 (toL n (pg L2 (j + 1))).length c2) := fun d os => by rw [(below_regrown w3 d os).cell hg1]; exact q2
          clear hs1 hs2 hz hcel s1 s2 f1 f2
          go_wp2_with fail
          refine wp_region_quiet_below (by kernel_rfl) (by kernel_rfl) ?_
          repeat (go_big_quiet_step (first | (go_at_call 81; exact Calls.regrown_of (l04Extra_any _ _ n (pg L2 j) (pg L2 (j + 1)) _ _ (HS.out _ _) (HT.out _ _) (HZ.out _ _) hn sp1))))
          refine wpQuiet_nil ?_
          intro _ hw'
          obtain ⟨⟨dq, osq⟩, hw''⟩ := hw'
          subst hw''
          have hbq := below_regrown w3 dq osq
          simp only [] at hbq ⊢
          generalize _root_.Go.Sort.grow (redrawn w3 dq) osq = w4 at hbq ⊢
          have hO4 := (hO2.below hbq (Nat.le_refl _)).mono (S' := Iv lo w4.heap.size) fun b hb' => ⟨hb'.1, Nat.lt_of_lt_of_le hb'.2 hbq.size⟩
          have hb4 := hb3.trans (hbq.mono hlo3)
          clear hO2 q1 q2 hc1 hc2 HS HT HZ
          go_wp2_with fail
          go_loopg [7, 9] (wtL n L2) (fun num ch kk wx => ∃ (L3 : List Pm) (b3 : Bool), ch = .bool b3 ∧ kk = .int .i64 (exK n (pg L3 j) (pg L3 (j + 1))) ∧ Hid (num = wtL n L3) ∧ OwS wx (Iv lo wx.heap.size) (.slice (some ⟨g, 0, none⟩) L.length c) (rowsP n L3) ∧ Hid (Mvs n L1 L3) ∧ Hid ((b3 = true ∧ wtL n L3 < wtL n L1) ∨ (b3 = false ∧ L3 = L1 ∧ ∀ t, t < j → t + 1 < L.length → exK n (pg L1 t) (pg L1 (t + 1)) = 0)) ∧ Below lo w wx)
          case atStart => exact ⟨L2, b2, rfl, rfl, Lib.hid rfl, hO4, HM2, HW2, hb4⟩
          case round =>
            obtain ⟨L3, b3, rfl, rfl, HN3, hO3, HM3, HW3, hb5⟩ := hrel
            obtain ⟨w5, hw5⟩ : ∃ x, x = wr := ⟨_, rfl⟩
            subst hw5
            have hl3 : L3.length = L.length := HM3.out.len.trans hl1
            have hlo5 : lo ≤ w5.heap.size := Nat.le_trans hlo hb5.size
            have HS3 := Lib.hid (HM3.out.sups (HM.out.sups HLn.out))
            by_cases hk : exK n (pg L3 j) (pg L3 (j + 1)) = 0
            · have hkb : (exK n (pg L3 j) (pg L3 (j + 1)) != 0) = false := by simp [hk]
              have HK := Lib.hid hk
              generalize exK n (pg L3 j) (pg L3 (j + 1)) = kx at hk hkb ⊢
              subst hk
              go_wp2_with fail
              go_roundw
              case rel =>
                refine ⟨L3, b3, j + 1, rfl, by go_num, by omega, hO3, HM3, Lib.hid ?_, hb5⟩
                rcases HW3.out with h1 | ⟨h1, h2, h3⟩
                · exact .inl h1
                · refine .inr ⟨h1, h2, fun t ht ht2 => ?_⟩
                  by_cases htj : t < j
                  · exact h3 t htj ht2
                  · obtain rfl : t = j := by omega
                    rw [← h2]; exact HK.out
              case measure => simp [intOf]; omega
            · obtain ⟨k0, k1, kf, ks⟩ := exK_some hk
              have hkb : (exK n (pg L3 j) (pg L3 (j + 1)) != 0) = true := by simp [hk]
              generalize exK n (pg L3 j) (pg L3 (j + 1)) = kx at *
              have hmv := mv_at (n := n) (L := L3) (i := j) (by omega) k0 k1 kf ks
              have hwt := wtL_mv hmv HS3.out
              have HMV := Lib.hid hmv
              have HWT := Lib.hid hwt
              clear hk kf ks hmv hwt
              obtain ⟨g5, cap5, e6, -, hg5, hcel5⟩ := hO3.cells (by rw [rowsP_len, hl3]; omega)
              rw [rowsP_len, hl3] at e6 hcel5
              obtain ⟨rfl, rfl⟩ : g = g5 ∧ c = cap5 := by injection e6 with e6 _ e7; injection e6 with e6; injection e6 with e6; exact ⟨e6, e7⟩
              obtain ⟨f1, u1, q1, s1⟩ := hcel5 j (by omega)
              rw [rowsP_gl (by omega)] at s1
              obtain ⟨A5, c5, rfl, -⟩ := id s1
              clear hcel5 e6
              go_wp2_with fail
              refine (l04Behind_any _ n (pg L3 j) kx _ _ s1 (Nat.le_refl _) hn k0 k1).mono ?_
              rintro e w6 ⟨r6, rfl, ho6, hb6⟩
              obtain ⟨A6, c6, rfl, -⟩ := id (ho6.sl (Nat.le_refl _))
              have hO6 := hO3.below hb6 (Nat.le_refl _)
              obtain ⟨hP6, hC6⟩ := OwS.put hO6 j (by rw [rowsP_len, hl3]; omega) ho6 hb6.size
              rw [rowsP_set] at hP6
              have f6 : w6.frozen? ⟨g, j, none⟩ = false := by rw [hb6.frozen hg5]; exact f1
              have q6 := q1
              rw [← hb6.cell (p := ⟨g, j, none⟩) hg5] at q6
              have hl6 : (L3.set j (beh (pg L3 j) kx)).length = L.length := by rw [List.length_set]; exact hl3
              obtain ⟨g7, cap7, e8, -, hg7, hcel7⟩ := hP6.cells (by rw [rowsP_len, hl6]; omega)
              rw [rowsP_len, hl6] at e8 hcel7
              obtain ⟨rfl, rfl⟩ : g = g7 ∧ c = cap7 := by injection e8 with e8 _ e9; injection e8 with e8; injection e8 with e8; exact ⟨e8, e9⟩
              obtain ⟨f7, u7, q7, s7⟩ := hcel7 (j + 1) hlt
              rw [rowsP_gl (by omega), pg_set_ne (by omega)] at s7
              obtain ⟨A7, c7, rfl, -⟩ := id s7
              have HO6 := Lib.hid hP6
              have HC6 := Lib.hid hC6
              have hbs6 := hC6.size
              clear hcel7 e8 q1 f1 s1 hO6 hP6 hC6
              go_wp2_with fail
              refine (l04Before_any _ n (pg L3 (j + 1)) kx _ _ s7 (Nat.le_refl _) hn k0 k1).mono ?_
              rintro e w8 ⟨r8, rfl, ho8, hb8⟩
              obtain ⟨A8, c8, rfl, -⟩ := id (ho8.sl (Nat.le_refl _))
              have hO8 := HO6.out.below hb8 (Nat.le_refl _)
              obtain ⟨hP8, hC8⟩ := OwS.put hO8 (j + 1) (by rw [rowsP_len, hl6]; omega) ho8 hb8.size
              rw [rowsP_set] at hP8
              have f8 : w8.frozen? ⟨g, j + 1, none⟩ = false := by rw [hb8.frozen hg7]; exact f7
              have q8 := q7
              rw [← hb8.cell (p := ⟨g, j + 1, none⟩) hg7] at q8
              have hb9 : Below lo w (w8.setCell ⟨g, j + 1, none⟩ (.slice A8 (toL n (bef kx (pg L3 (j + 1)))).length c8)) := by
                have z1 : Below lo w5 w6 := hb6.mono hlo5
                have z2 := HC6.out.below (Nat.le_refl lo) (Nat.le_trans hlo5 hb6.size)
                have z3 := hb8.mono (Nat.le_trans (Nat.le_trans hlo5 hb6.size) hbs6)
                have z4 := hC8.below (Nat.le_refl lo) (Nat.le_trans (Nat.le_trans (Nat.le_trans hlo5 hb6.size) hbs6) hb8.size)
                exact (((hb5.trans z1).trans z2).trans z3).trans z4
              have hl8 : ((L3.set j (beh (pg L3 j) kx)).set (j + 1) (bef kx (pg L3 (j + 1)))).length = L.length := by rw [List.length_set]; exact hl6
              obtain ⟨L4, hL4⟩ : ∃ L4, (L3.set j (beh (pg L3 j) kx)).set (j + 1) (bef kx (pg L3 (j + 1))) = L4 := ⟨_, rfl⟩
              rw [hL4] at HMV HWT hP8 hl8
              clear hL4 q7 f7 s7 hO8 hC8 q6 f6
              have HP8 := Lib.hid hP8
              clear hP8
              go_wp2_with fail
              generalize w8.setCell ⟨g, j + 1, none⟩ (.slice A8 (toL n (bef kx (pg L3 (j + 1)))).length c8) = w9 at HP8 hb9 ⊢
              clear q8 f8
              have hO9 := HP8.out
              obtain ⟨g9, cap9, e10, -, hg9, hcel9⟩ := hO9.cells (by rw [rowsP_len, hl8]; omega)
              rw [rowsP_len, hl8] at e10 hcel9
              obtain ⟨rfl, rfl⟩ : g = g9 ∧ c = cap9 := by injection e10 with e10 _ e11; injection e10 with e10; injection e10 with e10; exact ⟨e10, e11⟩
              obtain ⟨-, v1, q1, s1⟩ := hcel9 j (by omega)
              obtain ⟨-, v2, q2, s2⟩ := hcel9 (j + 1) hlt
              rw [rowsP_gl (by omega)] at s1 s2
              have HS4 := Lib.hid (HMV.out.sups HS3.out)
              have sp4 := HS4.out _ (pg_mem (show j < L4.length by omega))
              have hs1 : ∀ d os, Sl (_root_.Go.Sort.grow (redrawn w9 d) os) w9.heap.size v1 (toL n (pg L4 j)) := fun d os => s1.below (below_regrown _ d os) (Nat.le_refl _)
              have hs2 : ∀ d os, Sl (_root_.Go.Sort.grow (redrawn w9 d) os) w9.heap.size v2 (toL n (pg L4 (j + 1))) := fun d os => s2.below (below_regrown _ d os) (Nat.le_refl _)
              have hz : ∀ d os, w9.heap.size ≤ (_root_.Go.Sort.grow (redrawn w9 d) os).heap.size := fun d os => (below_regrown _ d os).size
              have HS := Lib.hid hs1
              have HT := Lib.hid hs2
              have HZ := Lib.hid hz
              obtain ⟨B1, d1, rfl, -⟩ := id s1
              obtain ⟨B2, d2, rfl, -⟩ := id s2
              have hc1 : ∀ d os, (_root_.Go.Sort.grow (redrawn w9 d) os).cell? ⟨g, j, none⟩ = some (.slice B1 (toL n (pg L4 j)).length d1) := fun d os => by rw [(below_regrown w9 d os).cell hg9]; exact q1
              have hc2 : ∀ d os, (_root_.Go.Sort.grow (redrawn w9 d) os).cell? ⟨g, j + 1, none⟩ = some (.slice B2 (toL n (pg L4 (j + 1))).length d2) := fun d os => by rw [(below_regrown w9 d os).cell hg9]; exact q2
              clear hs1 hs2 hz hcel9 s1 s2 e10
              refine wp_region_quiet_below (by kernel_rfl) (by kernel_rfl) ?_
              repeat (go_big_quiet_step (first | (go_at_call 81; exact Calls.regrown_of (l04Extra_any _ _ n (pg L4 j) (pg L4 (j + 1)) _ _ (HS.out _ _) (HT.out _ _) (HZ.out _ _) hn sp4))))
              refine wpQuiet_nil ?_
              intro _ hw'
              obtain ⟨⟨dq2, osq2⟩, hw''⟩ := hw'
              subst hw''
              have hbq2 := below_regrown w9 dq2 osq2
              simp only [] at hbq2 ⊢
              generalize _root_.Go.Sort.grow (redrawn w9 dq2) osq2 = w10 at hbq2 ⊢
              have hlo9 : lo ≤ w9.heap.size := Nat.le_trans hlo hb9.size
              have hO10 := (hO9.below hbq2 (Nat.le_refl _)).mono (S' := Iv lo w10.heap.size) fun b hb' => ⟨hb'.1, Nat.lt_of_lt_of_le hb'.2 hbq2.size⟩
              have hb10 := hb9.trans (hbq2.mono hlo9)
              clear hO9 q1 q2 hc1 hc2 HS HT HZ
              go_wp2_with fail
              go_roundg (wtL n L4)
              case measure => rw [HN3.out]; exact HWT.out
              case rel =>
                refine ⟨L4, true, rfl, rfl, Lib.hid rfl, hO10, Lib.hid (HM3.out.trans (.one HMV.out)), Lib.hid (.inl ⟨rfl, ?_⟩), hb10⟩
                have h1 := HWT.out
                rcases HW3.out with h2 | h2
                · exact Nat.lt_trans h1 h2.2
                · rw [← h2.2.1]; exact h1
        · have hltI : ¬ (j : Int) + 1 < L.length := by omega
          go_wp2_with fail
          go_roundg (2 * wtL n L2 + (if b2 = true then 1 else 0))
          case measure =>
            have h1 := HN.out
            rw [h1]
            rcases HW2.out with h2 | ⟨h2, h3, -⟩
            · rw [h2.1]; have := h2.2; simp; omega
            · rw [h2, h3]; simp
          case rel =>
            refine ⟨L2, b2, rfl, Lib.hid rfl, hO2, Lib.hid (HM.out.trans HM2.out), Lib.hid fun hb => ?_, hb3⟩
            rcases HW2.out with h2 | ⟨-, h3, h4⟩
            · rw [h2.1] at hb; cases hb
            · rw [h3]
              exact irr_at fun i hi => exK_zero (h4 i (by omega) (by omega))
end Go.Proofs.Ytcinnbkhnonijaa
