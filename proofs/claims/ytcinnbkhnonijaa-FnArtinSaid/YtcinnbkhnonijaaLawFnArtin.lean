/-
  Proved here: for every input the law FnArtin returns true, and the argument reads behind the call as it read before. No condition.
-/
import Derived.Test.YtcinnbkhnonijaaDb8
import Derived.Test.YtcinnbkhnonijaaFpl
import Derived.ProofKit
import Derived.OpenShut
import Derived.ShutString
import Derived.ChangeOld
import Derived.Below
import Derived.Deep.RegionHeld3
namespace Go.Proofs.Ytcinnbkhnonijaa.fnArtin
set_option maxRecDepth 10000
open Go.ChangeShapes Go.WideShapes Go.ChangeAt Go.RowKit
set_option linter.unusedVariables false

theorem artEq_flip (n m : Int) (v u : Value) (xs ys : List Int) (B : Nat) (w : World) (h : Sl w B v xs) (h2 : Sl w B u ys) (hB : B ≤ w.heap.size) :
    Calls Try.prog 9 #[.agg #[.int .i64 m, u], .agg #[.int .i64 n, v]] w fun e w' => e = .returned (.tuple #[.bool (aeA n xs m ys).1, .int .i64 (aeA n xs m ys).2]) ∧ Below w.heap.size w w' := by
  rw [← aeA_sym n xs m ys]
  exact impl_ArtinEqual_any m n u v ys xs B w h2 h hB
set_option maxRecDepth 100000 in
set_option maxHeartbeats 4000000 in
theorem walk (v : Value) (bs : List Int) (w : World) (h : SlB w w.heap.size v bs) :
    Calls Try.prog 3 #[v] w fun e w' => e = .returned (.bool true) ∧ Below w.heap.size w w' := by
  by_cases hlong : 1048576 < (bs.length : Int)
  · have hlb : decide (1048576 < (bs.length : Int)) = true := by simp [hlong]
    go_enter Try.func3, Try.ntmps3
    go_wp2_with (go_at_call 7; refine (b10Long_any v bs _ _ h).mono ?_; rintro e w' ⟨rfl, rfl⟩)
    go_ret
    exact ⟨rfl, Below.refl _ _⟩
  · have hlb : decide (1048576 < (bs.length : Int)) = false := by simp; omega
    clear hlong
    go_enter Try.func3, Try.ntmps3
    go_wp2_with (go_at_call 7; refine (b10Long_any v bs _ _ h).mono ?_; rintro e w' ⟨rfl, rfl⟩)
    refine (DrawArtinEqual_any v bs _ h).mono ?_
    rintro e w1 ⟨n, r, xs, m, u, ys, rfl, hI1, hJ1, hl1, hm1, hb1⟩
    obtain ⟨A, c, rfl, -⟩ := id hI1
    obtain ⟨A', c', rfl, -⟩ := id hJ1
    clear h
    have ha3 := al1 w1 (.cells #[.int .i64 n, .slice A xs.length c] 26)
    have hu3 := alloc_at_ w1 (.cells #[.int .i64 n, .slice A xs.length c] 26)
    have hsz3 : (w1.alloc (.cells #[.int .i64 n, .slice A xs.length c] 26)).heap.size = w1.heap.size + 1 := by simp
    have ha4 := al1 (w1.alloc (.cells #[.int .i64 n, .slice A xs.length c] 26)) (.cells #[.int .i64 m, .slice A' ys.length c'] 26)
    have hv4 := alloc_at_ (w1.alloc (.cells #[.int .i64 n, .slice A xs.length c] 26)) (.cells #[.int .i64 m, .slice A' ys.length c'] 26)
    have hu4 := ha4.box hu3 (by omega)
    have hb24 := ha3.trans (ha4.mono (by omega))
    rw [hsz3] at hv4
    have hz1 := hb1.size
    have HB4 := Lib.hid (hb1.trans (hb24.mono hz1))
    have hs4 := (hI1.below hb24 (Nat.le_refl _)).sl (Nat.le_refl _)
    have ht4 := (hJ1.below hb24 (Nat.le_refl _)).sl (Nat.le_refl _)
    clear ha3 ha4 hu3 hsz3 hb24 hI1 hJ1 hb1
    go_wp2_with fail
    generalize hW4 : (w1.alloc (.cells #[.int .i64 n, .slice A xs.length c] 26)).alloc (.cells #[.int .i64 m, .slice A' ys.length c'] 26) = w4 at *
    have hg4 := (box2 hv4).2.2.2.2
    clear hW4
    refine (impl_ArtinEqual_any n m _ _ xs ys w1.heap.size w4 hs4 ht4 (by omega)).mono ?_
    rintro e w5 ⟨rfl, hb5⟩
    have hz5 := hb5.size
    have hs5 := hs4.below hb5 (by omega)
    have ht5 := ht4.below hb5 (by omega)
    have hu5 := hb5.box hu4 (by omega)
    have hv5 := hb5.box hv4 (by omega)
    have HB5 := Lib.hid (HB4.out.trans (hb5.mono (by omega)))
    clear hs4 ht4 hu4 hv4 HB4 hb5
    obtain ⟨p0, p1, -, -, -⟩ := box2 hu5
    obtain ⟨q0, q1, -, -, -⟩ := box2 hv5
    go_wp2_with fail
    refine (artEq_flip n m _ _ xs ys w1.heap.size w5 hs5 ht5 (by omega)).mono ?_
    rintro e w6 ⟨rfl, hb6⟩
    have hz6 := hb6.size
    have hs6 := hs5.below hb6 (by omega)
    have ht6 := ht5.below hb6 (by omega)
    have hu6 := hb6.box hu5 (by omega)
    have hv6 := hb6.box hv5 (by omega)
    have HB6 := Lib.hid (HB5.out.trans (hb6.mono (by omega)))
    clear hs5 ht5 hu5 hv5 HB5 hb6 p0 p1 q0 q1
    have HE := Lib.hid (@aeA_eq n m xs ys)
    generalize (aeA n xs m ys).1 = sm at *
    generalize (aeA n xs m ys).2 = cd at *
    obtain ⟨p0, p1, -, -, -⟩ := box2 hu6
    obtain ⟨q0, q1, -, -, -⟩ := box2 hv6
    have t1 : (sm != sm) = false := by simp
    have t2 : (cd != cd) = false := by simp
    by_cases hcd : cd = 0
    · have hE := HE.out hcd
      subst hcd
      have hq := EqualBraids_any n m _ _ xs ys w1.heap.size w6 hs6 ht6 (by omega)
      rw [hE] at hq
      have HQ := Lib.hid hq
      clear hq hE HE hs6 ht6 hu6 hv6
      have t3 : (sm == sm) = true := by simp
      go_wp2_with fail
      refine HQ.out.mono ?_
      rintro e w7 ⟨rfl, hb7⟩
      have HB7 := Lib.hid (HB6.out.trans (hb7.mono (by omega)))
      clear hb7 HB6
      go_wp2_with fail
      go_ret
      exact ⟨rfl, HB7.out⟩
    · have t4 : (cd != 0) = true := by simp [hcd]
      clear hcd HE hs6 ht6 hu6 hv6
      go_wp2_with fail
      go_ret
      exact ⟨rfl, HB6.out⟩
set_option maxRecDepth 100000 in
theorem lifted (os : Os) (started : os.Started) (H : Type) (enc : TypeId × Value → H) :
    ReturnsInHanded {} Try.checked os 3 .any (Rows.fnArtinSpec.pre6 enc Try.prog Try.f3 Rows.fnArtinRow.domain false) (Rows.fnArtinSpec.post enc Try.prog Try.f3 false true false false) := by
  refine returnsInHanded_of_change (C := Try.checked) own_knob started (by kernel_rfl) Try.func3
    (ChangeSpec.witness6 (enc := enc) (C := Try.checked) false ⟨#[], #[.slice none 0 0], []⟩ 8 (by kernel_rfl) (by kernel_rfl) (by kernel_rfl) (by kernel_rfl)) ?_
  intro W base args ds gs before hval0 hW hcnd _
  have hval : ∀ (j : Nat) t v, Try.f3.params[j]? = some t → args[j]? = some v → Value.okWide Try.prog W .any base t v := hval0
  have hW' := hW
  obtain ⟨p, q, hA0, hV, rfl, hfz, hnd⟩ := hW
  have hA : DataW.TrodAll enc Try.prog W 0 (fun _ => true) true Try.f3.params.toList args.toList ds p := hA0
  rw [Try.params3] at hA hval
  obtain ⟨v0, vs0, d0, ds0, p0, q0, hargs, rfl, rfl, h0, r0⟩ := trodAll_cons hA
  obtain ⟨rfl, rfl, rfl⟩ := trodAll_nil r0
  obtain rfl : args = #[v0] := by cases args; simp_all
  obtain ⟨rfl, rfl⟩ := trodVars_none hV
  have k0 := h0
  have lt0 : ∀ x ∈ p0, x.block < W.heap.size := by obtain ⟨m, hm⟩ := k0; exact DataW.trod_lt m _ _ _ hm
  obtain ⟨bs, s0⟩ := open_SlB (hval 0 22 v0 rfl rfl) h0
  clear hA0 hval0
  refine (walk v0 bs W s0).mono fun e W' ⟨he, bel⟩ => ?_
  subst he
  exact ⟨_, rfl, _, _, _, [], _, [], hW', trodAll_mk1 (shut_bool Try.underlying4 _), (trodAll_cons_mk (Below.trod laid_out (by kernel_rfl) (of_decide_eq_true (by kernel_rfl)) k0 bel lt0) trodAll_mk0), rfl, bel.frame _, fun h => by cases h⟩

/-- The statement. -/
theorem proved : Rows.FnArtinSaid :=
  OpenClaim.holds_of_wide 3 Try.f3 rfl rfl rfl rfl rfl rfl rfl ⟨rfl, rfl, rfl, rfl, rfl⟩ rfl rfl rfl rfl rfl (by kernel_rfl) Try.func3 (by kernel_rfl)
    (of_decide_eq_true (by kernel_rfl)) (by unfold Func.isWrapper; first | (rw [if_pos (by decide +kernel)]; kernel_rfl) | (rw [if_neg (by decide +kernel)]; exact ⟨rfl, rfl⟩))
    (fun os started H enc _ => lifted os started H enc)
#print axioms proved
end Go.Proofs.Ytcinnbkhnonijaa.fnArtin
