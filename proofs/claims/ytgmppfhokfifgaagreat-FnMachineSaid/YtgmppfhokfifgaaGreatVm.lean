/-
  Contracts: tests of membership; slices.Grow and slices.Concat of [][]int64; the reference's l00Rises, l07Lists. Printed by gen_vm.py (the first part stands in XPl too).
-/
import Derived.Test.YtgmppfhokfifgaaGreatGmm
import Derived.Lib.AppendZeros
import Derived.Deep.Slices
namespace Go.Proofs.YtgmppfhokfifgaaGreat
set_option maxRecDepth 10000
open Go.RowKit

def hasI (xs : List Int) (k : Int) : Bool := xs.any fun x => x == k
theorem hasI_no {xs : List Int} {k : Int} (h : ∀ j, j < xs.length → gi xs j ≠ k) : hasI xs k = false := by
  rw [← Bool.not_eq_true, hasI, List.any_eq_true]
  rintro ⟨x, hx, he⟩
  obtain ⟨j, hj, rfl⟩ := List.getElem_of_mem hx
  rw [← gi_eq hj] at he
  exact h j hj (by simpa using he)
theorem hasI_yes {xs : List Int} {k : Int} {j : Nat} (hj : j < xs.length) (h : gi xs j = k) : hasI xs k = true := by
  rw [hasI, List.any_eq_true]; exact ⟨_, gi_mem hj, by simpa using h⟩
set_option maxHeartbeats 400000 in
theorem indexInts_any (v : Value) (xs : List Int) (k : Int) (B : Nat) (w : World) (h : Sl w B v xs) :
    Calls Tryz.prog 85 #[v, .int .i64 k] w fun e w' => (∃ r : Int, e = .returned (.int .i64 r) ∧ -1 ≤ r ∧ hasI xs k = decide (0 ≤ r)) ∧ w = w' := by
  obtain ⟨A, c, rfl, hl, hm, _, hcells⟩ := h
  unfold maxLen at hm
  have HC := Lib.hid hcells
  clear hcells
  go_enter Tryz.func85, Tryz.ntmps85
  go_wp2
  go_loop [8] (fun i => ∃ j : Nat, j ≤ xs.length ∧ i = .int .i64 j ∧ ∀ i, i < j → gi xs i ≠ k) (fun i => xs.length - (intOf i).toNat)
  case atStart => exact ⟨0, Nat.zero_le _, rfl, fun j hj => absurd hj (Nat.not_lt_zero _)⟩
  case round =>
    obtain ⟨j, hj, rfl, hgood⟩ := hrel
    have HG := Lib.hid hgood
    clear hgood
    by_cases hlt : j < xs.length
    · obtain ⟨b, off, rfl, hbB, hcell⟩ := HC.out (by omega)
      have q1 := hcell j hlt
      clear hcell
      by_cases he : gi xs j = k
      · have heb : (k == gi xs j) = true := by simp [he]
        have HF := Lib.hid (hasI_yes hlt he)
        clear he
        go_wp2
        go_ret
        exact ⟨⟨j, rfl, by omega, by rw [HF.out]; simp⟩, rfl⟩
      · have heb : (k == gi xs j) = false := by simp; exact fun e => he e.symm
        have HN := Lib.hid he
        clear he
        go_wp2
        go_round
        case rel =>
          refine ⟨j + 1, by omega, by go_num, fun i hi => ?_⟩
          by_cases hij : i < j
          · exact HG.out i hij
          · obtain rfl : i = j := by omega
            exact HN.out
        case measure => simp [intOf]; omega
    · have HF := Lib.hid (hasI_no (k := k) fun i hi => HG.out i (by omega))
      go_wp2
      go_ret
      exact ⟨⟨-1, rfl, by omega, by rw [HF.out]; simp⟩, rfl⟩
set_option maxHeartbeats 400000 in
theorem containsInts_any (v : Value) (xs : List Int) (k : Int) (B : Nat) (w : World) (h : Sl w B v xs) :
    Calls Tryz.prog 59 #[v, .int .i64 k] w fun e w' => e = .returned (.bool (hasI xs k)) ∧ w = w' := by
  go_enter Tryz.func59, Tryz.ntmps59
  go_wp2_with (go_at_call 85; refine (indexInts_any _ xs k B _ h).mono ?_; rintro e w' ⟨⟨r, rfl, hr, hlet⟩, rfl⟩; have HL := Lib.hid hlet; clear hlet)
  go_ret
  exact ⟨ret_bool HL.out.symm, rfl⟩
set_option maxHeartbeats 400000 in
theorem l00Has_any (v : Value) (xs : List Int) (k : Int) (B : Nat) (w : World) (h : Sl w B v xs) :
    Calls Tryz.prog 54 #[v, .int .i64 k] w fun e w' => e = .returned (.bool (hasI xs k)) ∧ w = w' := by
  obtain ⟨A, c, rfl, hl, hm, _, hcells⟩ := h
  unfold maxLen at hm
  have HC := Lib.hid hcells
  clear hcells
  go_enter Tryz.func54, Tryz.ntmps54
  go_wp2
  go_loop [5] (fun i => ∃ j : Nat, j ≤ xs.length ∧ i = .int .i64 j ∧ ∀ i, i < j → gi xs i ≠ k) (fun i => xs.length - (intOf i).toNat)
  case atStart => exact ⟨0, Nat.zero_le _, rfl, fun j hj => absurd hj (Nat.not_lt_zero _)⟩
  case round =>
    obtain ⟨j, hj, rfl, hgood⟩ := hrel
    have HG := Lib.hid hgood
    clear hgood
    by_cases hlt : j < xs.length
    · obtain ⟨b, off, rfl, hbB, hcell⟩ := HC.out (by omega)
      have q1 := hcell j hlt
      clear hcell
      by_cases he : gi xs j = k
      · have heb : (gi xs j == k) = true := by simp [he]
        have HF := Lib.hid (hasI_yes hlt he)
        clear he
        go_wp2
        go_ret
        exact ⟨ret_bool HF.out.symm, rfl⟩
      · have heb : (gi xs j == k) = false := by simp [he]
        have HN := Lib.hid he
        clear he
        go_wp2
        go_round
        case rel =>
          refine ⟨j + 1, by omega, by go_num, fun i hi => ?_⟩
          by_cases hij : i < j
          · exact HG.out i hij
          · obtain rfl : i = j := by omega
            exact HN.out
        case measure => simp [intOf]; omega
    · have HF := Lib.hid (hasI_no (k := k) fun i hi => HG.out i (by omega))
      go_wp2
      go_ret
      exact ⟨ret_bool HF.out.symm, rfl⟩

/-- The slice value v reads as the cells us; its block lies below B. -/
def RdR (w : World) (B : Nat) (v : Value) (us : List Value) : Prop :=
  ∃ A c, v = .slice A us.length c ∧ us.length ≤ c ∧ c ≤ maxLen ∧ (A = none → c = 0) ∧ (0 < us.length → ∃ b off, A = some ⟨b, off, none⟩ ∧ b < B ∧ ∀ k u, us[k]? = some u → w.cell? ⟨b, off + k, none⟩ = some u)
theorem RdR.keep {w w' : World} {B : Nat} {v : Value} {us : List Value} (h : RdR w B v us) (hk : ∀ p : Addr, p.block < B → w'.cell? p = w.cell? p) : RdR w' B v us := by
  obtain ⟨A, c, h1, h2, h3, h4, h5⟩ := h
  refine ⟨A, c, h1, h2, h3, h4, fun hp => ?_⟩
  obtain ⟨b, off, e, hb, hc⟩ := h5 hp
  exact ⟨b, off, e, hb, fun k u hu => by rw [hk _ hb]; exact hc k u hu⟩
theorem RdR.below {w w' : World} {B B' : Nat} {v : Value} {us : List Value} (h : RdR w B v us) (hb : Below B' w w') (hB : B ≤ B') : RdR w' B v us := h.keep fun _ hp => hb.cell (by omega)
theorem SlS.raw {w : World} {B : Nat} {v : Value} {xss : List (List Int)} (h : SlS w B v xss) : ∃ us, RdR w B v us ∧ us.length = xss.length ∧ ∀ k u, us[k]? = some u → Sl w B u (gl xss k) := by
  obtain ⟨A, c, h1, h2, h3, h4, h5⟩ := h
  by_cases hp : 0 < xss.length
  · obtain ⟨b, off, e, hb, hc⟩ := h5 hp
    obtain ⟨X, hX⟩ := Go.Deep.choose_lt (α := Value) (n := xss.length) (p := fun i u => w.cell? ⟨b, off + i, none⟩ = some u ∧ Sl w B u (gl xss i)) fun i hi => hc i hi
    have hl : ((List.range xss.length).map X).length = xss.length := by simp
    refine ⟨(List.range xss.length).map X, ⟨A, c, by rw [hl]; exact h1, by rw [hl]; exact h2, h3, h4, fun _ => ⟨b, off, e, hb, fun k u hu => ?_⟩⟩, hl, fun k u hu => ?_⟩
    · have hk : k < xss.length := by have := (List.getElem?_eq_some_iff.1 hu).1; omega
      simp [hk] at hu
      rw [← hu]; exact (hX k hk).1
    · have hk : k < xss.length := by have := (List.getElem?_eq_some_iff.1 hu).1; omega
      simp [hk] at hu
      rw [← hu]; exact (hX k hk).2
  · have h0 : xss.length = 0 := by omega
    exact ⟨[], ⟨A, c, by simpa [h0] using h1, by simp, h3, h4, fun h => absurd h (by simp)⟩, by simp [h0], fun k u hu => by simp at hu⟩
theorem Sl.one {w : World} {B : Nat} {u : Value} {xs : List Int} (h : Sl w B u xs) : u.oneCell' = true := by
  obtain ⟨A, c, rfl, -⟩ := h
  rfl
/-- append of a whole slice to a row of slices of the call's own. -/
theorem wpList_append_raw {ops : Array Oper} {rest : List Oper} {o : Oper} {a : Act} {Q : Exit → Act → World → Prop} (hgd : o.guard = none) (s x : Operand)
    (ho : o.op = .call { callee := .builtin .append, args := #[s, x], argTypes := #[26, 26] })
    (w : World) (lo hi B : Nat) (v u : Value) (us news : List Value) (hs : a.eval s = v) (hx : a.eval x = u)
    (hown : OwR 29 1 w lo hi v us.length us) (hu : RdR w B u news) (h1 : ∀ u ∈ news, u.oneCell' = true) (hlo : lo ≤ w.heap.size) (hlen : us.length + news.length ≤ 1000000000)
    (h : ∀ v' w', OwR 29 1 w' lo w'.heap.size v' (us ++ news).length (us ++ news) → w.grownBy w' v.ownBlock → wpList Tryz.prog ops Q rest (a.put o.dst v') w') :
    wpList Tryz.prog ops Q (o :: rest) a w := by
  obtain ⟨i0, hi0, hz0, hz1, hz2⟩ := info_parts sl_info
  obtain ⟨A, c, rfl, hl, hm, hn, hcell⟩ := hu
  refine wpList_plain hgd fun K hK => ?_
  cases A with
  | none =>
    obtain rfl := hn rfl
    obtain rfl : news = [] := List.eq_nil_of_length_eq_zero (by omega)
    have hr := run_append_owned_none (P := Tryz.prog) w lo 26 o.type 29 i0 1 Tryz.underlying26 hi0 v us.length us hown.1
    unfold Oper.wp execOp
    simp only [ho, resolve, invoke, builtin, Sem.run_bind, Sem.run_pure, Result.andThen_ok, List.map_toArray, List.map_cons, List.map_nil, hs, hx, List.length_nil, hr]
    refine hK _ _ (h v w (by rw [List.append_nil]; exact ⟨hown.1, fun g hg => (hown.1.lt g hg).2⟩) (World.grownBy.refl _ _))
  | some ad =>
    have hc : ∀ j u, news[j]? = some u → w.cell? (ad.add j) = some u := by
      intro j u hu
      have hj : j < news.length := (List.getElem?_eq_some_iff.1 hu).1
      obtain ⟨b, off, e, _, hcc⟩ := hcell (by omega)
      injection e with e
      subst e
      rw [Addr.add_lit]
      exact hcc j u hu
    obtain ⟨v', w', hr, h2, h3, h4⟩ := run_append_own_at (P := Tryz.prog) w lo 26 o.type 29 i0 (.slice none 0 0) 1 24 Tryz.underlying26 hi0 hz0 hz1 hz2 rfl (by decide) v us.length us hown.1
      ad news.length c news (by omega) hc h1 (by simp only [maxLen]; omega) (by omega) hlo
    unfold Oper.wp execOp
    simp only [ho, resolve, invoke, builtin, Sem.run_bind, Sem.run_pure, Result.andThen_ok, List.map_toArray, List.map_cons, List.map_nil, hs, hx, hr]
    refine hK _ _ (h v' w' (by rw [List.length_append]; exact OwR.of_own h2) h3)
set_option maxHeartbeats 800000 in
theorem growSS_any (n : Nat) (w : World) (hn : n ≤ 10000000) :
    Calls Tryz.prog 57 #[.slice none 0 0, .int .i64 n] w fun e w' => ∃ r, e = .returned r ∧ OwR 29 1 w' w.heap.size w'.heap.size r 0 [] ∧ Below w.heap.size w w' := by
  obtain ⟨i0, hi0, hz0, hz1, hz2⟩ := info_parts sl_info
  rcases Nat.eq_zero_or_pos n with rfl | hp
  · go_enter Tryz.func57, Tryz.ntmps57
    go_wp2
    go_ret
    exact ⟨_, rfl, OwR.nil _ _ _ _ _, Below.refl _ _⟩
  · have hge := grownCap_ge w n 0 29
    have hle := grownCap_le_maxLen w n 0 29 (by unfold maxLen; omega)
    have hr := Lib.run_append_nil_zeros (P := Tryz.prog) w 26 3 26 29 i0 (.slice none 0 0) .i64 .i64 Tryz.underlying26 Tryz.underlying3 hi0 hz0 n hp (by omega) (by omega) (by rw [hz2]; omega)
    have hown : ((w.drew.alloc (.cells (Builtin.zeroCells (Value.slice none 0 0).cells n ++ Builtin.zeroCells (Value.slice none 0 0).cells (grownCap w n 0 29 - n)) 29)).ownsRow w.heap.size 29 1 (.slice (some ⟨w.heap.size, 0, none⟩) 0 (grownCap w n 0 29)) 0 []) :=
      World.ownsRow_made w.drew _ (grownCap w n 0 29) (Nat.le_refl _) hle (by rw [Array.size_append, size_zeroCells, size_zeroCells]; show n * 1 + (grownCap w n 0 29 - n) * 1 = _; omega)
    have hO : OwR 29 1 _ w.heap.size _ _ 0 [] := OwR.of_own hown
    have hb : Below w.heap.size w (w.drew.alloc (.cells (Builtin.zeroCells (Value.slice none 0 0).cells n ++ Builtin.zeroCells (Value.slice none 0 0).cells (grownCap w n 0 29 - n)) 29)) := (Below.refl _ _).drew.alloc (Nat.le_refl _) _
    unfold maxLen at hle
    have HR := Lib.hid hr
    have HO := Lib.hid hO
    have HB := Lib.hid hb
    clear hr hO hb hown
    generalize hC : grownCap w n 0 29 = C at *
    generalize hW : w.drew.alloc (.cells (Builtin.zeroCells (Value.slice none 0 0).cells n ++ Builtin.zeroCells (Value.slice none 0 0).cells (C - n)) 29) = W at *
    clear hC hW
    have hc0 : ¬ C = 0 := by omega
    go_enter Tryz.func57, Tryz.ntmps57
    go_wp2_with (at_builtin; refine Lib.wpList_append_run _ rfl _ _ _ _ rfl _ _ rfl rfl _ _ HR.out ?_)
    go_ret
    exact ⟨_, rfl, HO.out, HB.out⟩
set_option maxHeartbeats 1600000 in
/-- slices.Concat of some slices of slices (they lie in a block of their own). -/
theorem concatSS_any (g : Nat) (vs : List Value) (L : List (List (List Int))) (B : Nat) (w : World) (hB : B ≤ w.heap.size) (hg : g < w.heap.size) (hl : vs.length = L.length) (hn : L.length ≤ 10) (hsz : L.flatten.length ≤ 10000000)
    (hv : ∀ k u, vs[k]? = some u → w.cell? ⟨g, k, none⟩ = some u ∧ SlS w B u (L.getD k [])) :
    Calls Tryz.prog 25 #[.slice (some ⟨g, 0, none⟩) L.length L.length] w fun e w' => ∃ r, e = .returned r ∧ SlS w' w'.heap.size r L.flatten ∧ Below w.heap.size w w' := by
  have hlt : ∀ k, k < L.length → (L.take (k + 1)).flatten = (L.take k).flatten ++ L.getD k [] := fun k hk => by
    rw [List.take_succ_eq_append_getElem hk, List.flatten_append]
    simp only [List.flatten_cons, List.flatten_nil, List.append_nil]
    simp [List.getD, hk]
  have hle : ∀ k, (L.take k).flatten.length ≤ L.flatten.length := fun k => by
    conv => rhs; rw [← List.take_append_drop k L]
    rw [List.flatten_append, List.length_append]; omega
  have HV := Lib.hid hv
  have HLT := Lib.hid hlt
  have HLE := Lib.hid hle
  clear hv hlt hle
  go_enter Tryz.func25, Tryz.ntmps25
  go_wp2_with fail
  go_loopw [3, 11] (fun x i wr => ∃ k : Nat, k ≤ L.length ∧ i = .int .i64 k ∧ x = .int .i64 ((L.take k).flatten.length : Nat) ∧ wr = w) (fun _ i _ => L.length - (intOf i).toNat)
  case atStart => exact ⟨0, Nat.zero_le _, rfl, by simp, rfl⟩
  case round =>
    obtain ⟨k, hk, rfl, rfl, hww⟩ := hrel
    have hww2 := hww.symm
    subst hww2
    by_cases hlt : k < L.length
    · obtain ⟨u, hu⟩ : ∃ u, vs[k]? = some u := ⟨_, List.getElem?_eq_getElem (by omega)⟩
      obtain ⟨c1, s1⟩ := HV.out k u hu
      obtain ⟨A, c, rfl, hl1, hm1, -⟩ := id s1
      unfold maxLen at hm1
      have h1 := HLE.out k
      have h2 := HLE.out (k + 1)
      have HA := Lib.hid (HLT.out k hlt)
      rw [HLT.out k hlt, List.length_append] at h2
      have hneg : ¬ (((L.take k).flatten.length : Nat) : Int) + (((L.getD k []).length : Nat) : Int) < 0 := by omega
      generalize (L.take k).flatten = acc at *
      generalize L.getD k [] = cur at *
      clear s1 hu
      go_wp2_with fail
      go_roundw
      case rel => exact ⟨k + 1, by omega, by go_num, by rw [HA.out, List.length_append]; go_num, trivial⟩
      case measure => simp [intOf]; omega
    · obtain rfl : k = L.length := by omega
      rw [List.take_length]
      have hp : L.flatten.length ≤ 10000000 := hsz
      generalize hF : L.flatten.length = F at *
      go_wp2_with fail
      refine (growSS_any F _ hsz).mono ?_
      rintro e w1 ⟨r, rfl, hO, hb⟩
      have hO0 : ∃ us, OwR 29 1 w1 w.heap.size w1.heap.size r us.length us ∧ us.length = (L.take 0).flatten.length ∧ ∀ k u, us[k]? = some u → Sl w B u (gl (L.take 0).flatten k) := ⟨[], hO, by simp, fun k u hu => by simp at hu⟩
      have HF := Lib.hid hF
      clear hF hO
      go_wp2_with fail
      go_loopw [6, 27] (fun x i wr => ∃ k : Nat, k ≤ L.length ∧ i = .int .i64 k ∧ (∃ us, OwR 29 1 wr w.heap.size wr.heap.size x us.length us ∧ us.length = (L.take k).flatten.length ∧ ∀ j u, us[j]? = some u → Sl w B u (gl (L.take k).flatten j)) ∧ Below w.heap.size w wr) (fun _ i _ => L.length - (intOf i).toNat)
      case atStart => exact ⟨0, Nat.zero_le _, rfl, hO0, hb⟩
      case round =>
        obtain ⟨k, hk, rfl, ⟨us, hO, hul, hus⟩, hb'⟩ := hrel
        have HUS := Lib.hid hus
        have HUL := Lib.hid hul
        have HB := Lib.hid hb'
        have hz := hb'.size
        clear hus hul hb' hb hO0
        by_cases hlt : k < L.length
        · obtain ⟨u, hu⟩ : ∃ u, vs[k]? = some u := ⟨_, List.getElem?_eq_getElem (by omega)⟩
          obtain ⟨c1, s1⟩ := HV.out k u hu
          obtain ⟨A, c, rfl, -⟩ := id s1
          have c2 : wr.cell? ⟨g, k, none⟩ = some (.slice A (L.getD k []).length c) := by rw [HB.out.cell (by simp only; exact hg)]; exact c1
          obtain ⟨news, hr, hrl, hrs⟩ := s1.raw
          have hr2 := hr.below HB.out hB
          have h2 := HLE.out (k + 1)
          have HA := Lib.hid (HLT.out k hlt)
          rw [HLT.out k hlt, List.length_append] at h2
          have h1n : ∀ u ∈ news, u.oneCell' = true := fun u hu => by
            obtain ⟨j, hj, rfl⟩ := List.getElem_of_mem hu
            exact (hrs j _ (List.getElem?_eq_getElem hj)).one
          have HH1 := Lib.hid h1n
          have HRL := Lib.hid hrl
          have HRS := Lib.hid hrs
          have hbnd : us.length + news.length ≤ 1000000000 := by have := HUL.out; omega
          clear s1 hu hr hrl hrs h1n
          generalize hcur : (L.getD k []).length = cl at *
          go_wp2_with (at_builtin; refine wpList_append_raw rfl _ _ rfl _ _ _ _ _ _ us news rfl rfl hO hr2 HH1.out hz hbnd ?_; intro v1 w2 hO1 hg1)
          have hb2 := hO.grown hg1 (Nat.le_refl _) hz
          go_roundw
          case rel =>
            refine ⟨k + 1, by omega, by go_num, ⟨us ++ news, hO1, ?_, fun j u hu => ?_⟩, HB.out.trans hb2⟩
            · rw [HA.out, List.length_append, List.length_append, HUL.out, HRL.out, hcur]
            · rw [HA.out]
              by_cases hj : j < us.length
              · rw [List.getElem?_append_left hj] at hu
                have := HUS.out j u hu
                rw [show gl ((L.take k).flatten ++ L.getD k []) j = gl (L.take k).flatten j by rw [gl_eq (by rw [List.length_append]; have := HUL.out; omega), gl_eq (by have := HUL.out; omega), List.getElem_append_left (by have := HUL.out; omega)]]
                exact this
              · rw [List.getElem?_append_right (by omega)] at hu
                have hj2 : j - us.length < news.length := (List.getElem?_eq_some_iff.1 hu).1
                have := HRS.out _ u hu
                rw [show gl ((L.take k).flatten ++ L.getD k []) j = gl (L.getD k []) (j - us.length) by
                  rw [gl_eq (by rw [List.length_append]; have := HUL.out; have := HRL.out; omega), gl_eq (by have := HRL.out; omega), List.getElem_append_right (by have := HUL.out; omega)]
                  congr 1
                  have := HUL.out; omega]
                exact this
          case measure => simp [intOf]; omega
        · obtain rfl : k = L.length := by omega
          rw [List.take_length] at HUL HUS
          go_wp2_with fail
          go_ret
          refine ⟨_, rfl, ?_, HB.out⟩
          rcases hO.form with ⟨rfl, h0, rfl⟩ | ⟨g2, cap, rfl, hlo, hhi, hle, hcap, hll, hcells⟩
          · have : L.flatten = [] := List.eq_nil_of_length_eq_zero (by have := HUL.out; simpa using this.symm)
            rw [this]; exact SlS.nil _ _
          · rw [HUL.out] at hle ⊢
            refine ⟨_, cap, rfl, hle, by unfold maxLen; omega, by simp, fun _ => ⟨g2, 0, rfl, hhi, fun j hj => ?_⟩⟩
            obtain ⟨u, hu⟩ : ∃ u, us[j]? = some u := ⟨_, List.getElem?_eq_getElem (by have := HUL.out; omega)⟩
            exact ⟨u, by rw [Nat.zero_add]; exact hcells j u hu, ((HUS.out j u hu).below HB.out hB).mono (Nat.le_trans hB hz)⟩
end Go.Proofs.YtgmppfhokfifgaaGreat
