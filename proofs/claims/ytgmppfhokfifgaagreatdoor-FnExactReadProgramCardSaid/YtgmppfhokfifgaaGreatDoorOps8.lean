/-
  Contracts: the reference's l08Op and OpText. Printed by gen_ops8.py.
-/
import Derived.Test.YtgmppfhokfifgaaGreatDoorOpt
import Derived.Test.YtgmppfhokfifgaaGreatDoorOpsL
namespace Go.Proofs.YtgmppfhokfifgaaGreatDoor
set_option maxRecDepth 10000
open Go.RowKit Go.Sort
set_option linter.unusedVariables false

theorem OpAt.fwd {w w' : World} {b o : Nat} {k d fb fa tb ta c r : Int} (h : OpAt w b o k d fb fa tb ta c r) (hb : Below w.heap.size w w') : OpAt w' b o k d fb fa tb ta c r := by
  obtain ⟨a0, a1, a2, a3, a4, a5, a6, a7⟩ := h
  have up : ∀ {q : Nat} {x : Value}, w.cell? ⟨b, q, none⟩ = some x → w'.cell? ⟨b, q, none⟩ = some x := fun h => by rw [hb.cell (block_lt_of_cell h)]; exact h
  exact ⟨up a0, up a1, up a2, up a3, up a4, up a5, up a6, up a7⟩
set_option maxHeartbeats 6400000 in
theorem l08Op_k1 {d fb fa ta c r : Int} (ia : I64 fa) (ja : I64 ta) (ca : I64 c) (ra : I64 r) (d0 : d ≠ 0) (f0 : fb ≠ 0) (c0 : c ≠ 0) {w : World} {p q : Nat} (ha : OpAt w p q 1 d fb fa 0 ta c r) :
    Calls Tryz.prog 72 #[.pointer (some ⟨p, q, none⟩)] w fun e w' => e = .returned (.string (opTx 1 d fb fa 0 ta c r)) ∧ Below w.heap.size w w' := by
  have HA := Lib.hid ha
  clear ha
  have HW : Hid (opW 1 d fb fa 0 ta c r = [kw 1, dirS d, ndS fb fa, dec c]) := Lib.hid (by unfold opW; simp [d0, f0, c0])
  clear d0 f0 c0
  go_enter Tryz.func72, Tryz.ntmps72
  obtain ⟨a0, a1, a2, a3, a4, a5, a6, a7⟩ := HA.out
  have hpl := block_lt_of_cell a0
  go_upto_region 1 with fail
  go_cut [3] (fun s3 wx => s3 = .string (kw 1) ∧ Below w.heap.size w wx)
  case first =>
    clear a1 a2 a3 a4 a5 a6 a7
    go_region_with (go_at_call 69; (refine (l08Words_any _).mono ?_); rintro e wq ⟨g, rfl, hg, hq⟩; have hr : Below w.heap.size w wq := Below.trans (by first | assumption | go_grown) (hq.mono (Below.size (w := w) (B := w.heap.size) (by first | assumption | go_grown))); have hgn := hg 1 (by decide); have a0 := (HA.out.fwd hr).c0; have hpl := block_lt_of_cell a0; clear hq hg)
    all_goals (go_wp2_with fail; go_meet; exact ⟨rfl, hr⟩)
  case rest =>
  clear a0 a1 a2 a3 a4 a5 a6 a7 hpl
  obtain ⟨rfl, hb⟩ := hcut
  obtain ⟨w1, hw1⟩ : ∃ x, x = wc := ⟨_, rfl⟩
  subst hw1
  have HB := Lib.hid hb
  have HA1 := Lib.hid (HA.out.fwd hb)
  clear hb
  obtain ⟨a0, a1, a2, a3, a4, a5, a6, a7⟩ := HA1.out
  have hpl := block_lt_of_cell a0
  obtain ⟨t0, ht0, hs0, had0⟩ := cat (x := (kw 1)) (y := { data := #[32] }) (a := 5) (b := 1) (kw_size _) (by decide) (by decide)
  obtain ⟨t1, ht1, hs1, had1⟩ := cat (x := t0) (y := (dirS d)) (a := 6) (b := 1) hs0 (dirS_size d) (by decide)
  obtain ⟨t2, ht2, hs2, had2⟩ := cat (x := t1) (y := { data := #[32] }) (a := 7) (b := 1) hs1 (by decide) (by decide)
  obtain ⟨t3, ht3, hs3, had3⟩ := cat (x := t2) (y := (ndS fb fa)) (a := 8) (b := 22) hs2 (ndS_size ia) (by decide)
  obtain ⟨t4, ht4, hs4, had4⟩ := cat (x := t3) (y := { data := #[32] }) (a := 30) (b := 1) hs3 (by decide) (by decide)
  obtain ⟨t5, ht5, hs5, had5⟩ := cat (x := t4) (y := (dec c)) (a := 31) (b := 21) hs4 (dec_size ca) (by decide)
  have HTX : Hid (t5 = opTx 1 d fb fa 0 ta c r) := Lib.hid (by rw [ht5, ht4, ht3, ht2, ht1, ht0, opTx, HW.out, join4]; rfl)
  clear ht0 hs0 ht1 hs1 ht2 hs2 ht3 hs3 ht4 hs4 ht5 hs5
  have HK := Lib.hid (fun w' (hw : Below w1.heap.size w1 w') => show w'.cell? ⟨p, q + 1, none⟩ = some (.int .i64 (d)) ∧ w'.cell? ⟨p, q + 2, none⟩ = some (.int .i64 (fb)) ∧ w'.cell? ⟨p, q + 3, none⟩ = some (.int .i64 (fa)) ∧ w'.cell? ⟨p, q + 6, none⟩ = some (.int .i64 (c)) ∧ Below w1.heap.size w1 w' from ⟨(HA1.out.fwd hw).c1, (HA1.out.fwd hw).c2, (HA1.out.fwd hw).c3, (HA1.out.fwd hw).c6, hw⟩)
  go_wp2_with fail
  clear a0 a1 a2 a3 a4 a5 a6 a7 hpl
  go_region_held3 (fun w' => w'.cell? ⟨p, q + 1, none⟩ = some (.int .i64 (d)) ∧ w'.cell? ⟨p, q + 2, none⟩ = some (.int .i64 (fb)) ∧ w'.cell? ⟨p, q + 3, none⟩ = some (.int .i64 (fa)) ∧ w'.cell? ⟨p, q + 6, none⟩ = some (.int .i64 (c)) ∧ Below w1.heap.size w1 w')
    (exact HK.out _ (by first | assumption | go_grown))
    (first
      | (go_at_call 101; (refine (l08Dir_any d _).mono ?_); rintro e wq ⟨rfl, hq⟩; have hr : Below w1.heap.size w1 wq := Below.trans (by first | assumption | go_grown) (hq.mono (Below.size (w := w1) (B := w1.heap.size) (by first | assumption | go_grown))); clear hq)
      | (go_at_call_of 98 (Go.Value.agg #[.int .i64 fb, .int .i64 fa]); (refine (l01Text_any fb (a := fa) ia).mono ?_); rintro e wq ⟨rfl, hq⟩; have hr : Below w1.heap.size w1 wq := Below.trans (by first | assumption | go_grown) (hq.mono (Below.size (w := w1) (B := w1.heap.size) (by first | assumption | go_grown))); clear hq)
      | (go_at_call 68; (refine (l01Dec_any ca _).mono ?_); rintro e wq ⟨rfl, hq⟩; have hr : Below w1.heap.size w1 wq := Below.trans (by first | assumption | go_grown) (hq.mono (Below.size (w := w1) (B := w1.heap.size) (by first | assumption | go_grown))); clear hq))
  go_wp2_with fail
  go_ret
  rw [← HTX.out]
  exact ⟨rfl, HB.out.trans (hr.mono HB.out.size)⟩
set_option maxHeartbeats 6400000 in
theorem l08Op_k2 {d fb fa ta c r : Int} (ia : I64 fa) (ja : I64 ta) (ca : I64 c) (ra : I64 r) (d0 : d ≠ 0) (f0 : fb ≠ 0) (c0 : c ≠ 0) {w : World} {p q : Nat} (ha : OpAt w p q 2 d fb fa 0 ta c r) :
    Calls Tryz.prog 72 #[.pointer (some ⟨p, q, none⟩)] w fun e w' => e = .returned (.string (opTx 2 d fb fa 0 ta c r)) ∧ Below w.heap.size w w' := by
  have HA := Lib.hid ha
  clear ha
  have HW : Hid (opW 2 d fb fa 0 ta c r = [kw 2, dirS d, ndS fb fa, dec c]) := Lib.hid (by unfold opW; simp [d0, f0, c0])
  clear d0 f0 c0
  go_enter Tryz.func72, Tryz.ntmps72
  obtain ⟨a0, a1, a2, a3, a4, a5, a6, a7⟩ := HA.out
  have hpl := block_lt_of_cell a0
  go_upto_region 1 with fail
  go_cut [3] (fun s3 wx => s3 = .string (kw 2) ∧ Below w.heap.size w wx)
  case first =>
    clear a1 a2 a3 a4 a5 a6 a7
    go_region_with (go_at_call 69; (refine (l08Words_any _).mono ?_); rintro e wq ⟨g, rfl, hg, hq⟩; have hr : Below w.heap.size w wq := Below.trans (by first | assumption | go_grown) (hq.mono (Below.size (w := w) (B := w.heap.size) (by first | assumption | go_grown))); have hgn := hg 2 (by decide); have a0 := (HA.out.fwd hr).c0; have hpl := block_lt_of_cell a0; clear hq hg)
    all_goals (go_wp2_with fail; go_meet; exact ⟨rfl, hr⟩)
  case rest =>
  clear a0 a1 a2 a3 a4 a5 a6 a7 hpl
  obtain ⟨rfl, hb⟩ := hcut
  obtain ⟨w1, hw1⟩ : ∃ x, x = wc := ⟨_, rfl⟩
  subst hw1
  have HB := Lib.hid hb
  have HA1 := Lib.hid (HA.out.fwd hb)
  clear hb
  obtain ⟨a0, a1, a2, a3, a4, a5, a6, a7⟩ := HA1.out
  have hpl := block_lt_of_cell a0
  obtain ⟨t0, ht0, hs0, had0⟩ := cat (x := (kw 2)) (y := { data := #[32] }) (a := 5) (b := 1) (kw_size _) (by decide) (by decide)
  obtain ⟨t1, ht1, hs1, had1⟩ := cat (x := t0) (y := (dirS d)) (a := 6) (b := 1) hs0 (dirS_size d) (by decide)
  obtain ⟨t2, ht2, hs2, had2⟩ := cat (x := t1) (y := { data := #[32] }) (a := 7) (b := 1) hs1 (by decide) (by decide)
  obtain ⟨t3, ht3, hs3, had3⟩ := cat (x := t2) (y := (ndS fb fa)) (a := 8) (b := 22) hs2 (ndS_size ia) (by decide)
  obtain ⟨t4, ht4, hs4, had4⟩ := cat (x := t3) (y := { data := #[32] }) (a := 30) (b := 1) hs3 (by decide) (by decide)
  obtain ⟨t5, ht5, hs5, had5⟩ := cat (x := t4) (y := (dec c)) (a := 31) (b := 21) hs4 (dec_size ca) (by decide)
  have HTX : Hid (t5 = opTx 2 d fb fa 0 ta c r) := Lib.hid (by rw [ht5, ht4, ht3, ht2, ht1, ht0, opTx, HW.out, join4]; rfl)
  clear ht0 hs0 ht1 hs1 ht2 hs2 ht3 hs3 ht4 hs4 ht5 hs5
  have HK := Lib.hid (fun w' (hw : Below w1.heap.size w1 w') => show w'.cell? ⟨p, q + 1, none⟩ = some (.int .i64 (d)) ∧ w'.cell? ⟨p, q + 2, none⟩ = some (.int .i64 (fb)) ∧ w'.cell? ⟨p, q + 3, none⟩ = some (.int .i64 (fa)) ∧ w'.cell? ⟨p, q + 6, none⟩ = some (.int .i64 (c)) ∧ Below w1.heap.size w1 w' from ⟨(HA1.out.fwd hw).c1, (HA1.out.fwd hw).c2, (HA1.out.fwd hw).c3, (HA1.out.fwd hw).c6, hw⟩)
  go_wp2_with fail
  clear a0 a1 a2 a3 a4 a5 a6 a7 hpl
  go_region_held3 (fun w' => w'.cell? ⟨p, q + 1, none⟩ = some (.int .i64 (d)) ∧ w'.cell? ⟨p, q + 2, none⟩ = some (.int .i64 (fb)) ∧ w'.cell? ⟨p, q + 3, none⟩ = some (.int .i64 (fa)) ∧ w'.cell? ⟨p, q + 6, none⟩ = some (.int .i64 (c)) ∧ Below w1.heap.size w1 w')
    (exact HK.out _ (by first | assumption | go_grown))
    (first
      | (go_at_call 101; (refine (l08Dir_any d _).mono ?_); rintro e wq ⟨rfl, hq⟩; have hr : Below w1.heap.size w1 wq := Below.trans (by first | assumption | go_grown) (hq.mono (Below.size (w := w1) (B := w1.heap.size) (by first | assumption | go_grown))); clear hq)
      | (go_at_call_of 98 (Go.Value.agg #[.int .i64 fb, .int .i64 fa]); (refine (l01Text_any fb (a := fa) ia).mono ?_); rintro e wq ⟨rfl, hq⟩; have hr : Below w1.heap.size w1 wq := Below.trans (by first | assumption | go_grown) (hq.mono (Below.size (w := w1) (B := w1.heap.size) (by first | assumption | go_grown))); clear hq)
      | (go_at_call 68; (refine (l01Dec_any ca _).mono ?_); rintro e wq ⟨rfl, hq⟩; have hr : Below w1.heap.size w1 wq := Below.trans (by first | assumption | go_grown) (hq.mono (Below.size (w := w1) (B := w1.heap.size) (by first | assumption | go_grown))); clear hq))
  go_wp2_with fail
  go_ret
  rw [← HTX.out]
  exact ⟨rfl, HB.out.trans (hr.mono HB.out.size)⟩
set_option maxHeartbeats 6400000 in
theorem l08Op_k3 {d fb fa ta c r : Int} (ia : I64 fa) (ja : I64 ta) (ca : I64 c) (ra : I64 r) (d0 : d ≠ 0) (f0 : fb ≠ 0) (c0 : c ≠ 0) {w : World} {p q : Nat} (ha : OpAt w p q 3 d fb fa 0 ta c r) :
    Calls Tryz.prog 72 #[.pointer (some ⟨p, q, none⟩)] w fun e w' => e = .returned (.string (opTx 3 d fb fa 0 ta c r)) ∧ Below w.heap.size w w' := by
  have HA := Lib.hid ha
  clear ha
  have HW : Hid (opW 3 d fb fa 0 ta c r = [kw 3, dirS d, ndS fb fa, dec c]) := Lib.hid (by unfold opW; simp [d0, f0, c0])
  clear d0 f0 c0
  go_enter Tryz.func72, Tryz.ntmps72
  obtain ⟨a0, a1, a2, a3, a4, a5, a6, a7⟩ := HA.out
  have hpl := block_lt_of_cell a0
  go_upto_region 1 with fail
  go_cut [3] (fun s3 wx => s3 = .string (kw 3) ∧ Below w.heap.size w wx)
  case first =>
    clear a1 a2 a3 a4 a5 a6 a7
    go_region_with (go_at_call 69; (refine (l08Words_any _).mono ?_); rintro e wq ⟨g, rfl, hg, hq⟩; have hr : Below w.heap.size w wq := Below.trans (by first | assumption | go_grown) (hq.mono (Below.size (w := w) (B := w.heap.size) (by first | assumption | go_grown))); have hgn := hg 3 (by decide); have a0 := (HA.out.fwd hr).c0; have hpl := block_lt_of_cell a0; clear hq hg)
    all_goals (go_wp2_with fail; go_meet; exact ⟨rfl, hr⟩)
  case rest =>
  clear a0 a1 a2 a3 a4 a5 a6 a7 hpl
  obtain ⟨rfl, hb⟩ := hcut
  obtain ⟨w1, hw1⟩ : ∃ x, x = wc := ⟨_, rfl⟩
  subst hw1
  have HB := Lib.hid hb
  have HA1 := Lib.hid (HA.out.fwd hb)
  clear hb
  obtain ⟨a0, a1, a2, a3, a4, a5, a6, a7⟩ := HA1.out
  have hpl := block_lt_of_cell a0
  obtain ⟨t0, ht0, hs0, had0⟩ := cat (x := (kw 3)) (y := { data := #[32] }) (a := 5) (b := 1) (kw_size _) (by decide) (by decide)
  obtain ⟨t1, ht1, hs1, had1⟩ := cat (x := t0) (y := (dirS d)) (a := 6) (b := 1) hs0 (dirS_size d) (by decide)
  obtain ⟨t2, ht2, hs2, had2⟩ := cat (x := t1) (y := { data := #[32] }) (a := 7) (b := 1) hs1 (by decide) (by decide)
  obtain ⟨t3, ht3, hs3, had3⟩ := cat (x := t2) (y := (ndS fb fa)) (a := 8) (b := 22) hs2 (ndS_size ia) (by decide)
  obtain ⟨t4, ht4, hs4, had4⟩ := cat (x := t3) (y := { data := #[32] }) (a := 30) (b := 1) hs3 (by decide) (by decide)
  obtain ⟨t5, ht5, hs5, had5⟩ := cat (x := t4) (y := (dec c)) (a := 31) (b := 21) hs4 (dec_size ca) (by decide)
  have HTX : Hid (t5 = opTx 3 d fb fa 0 ta c r) := Lib.hid (by rw [ht5, ht4, ht3, ht2, ht1, ht0, opTx, HW.out, join4]; rfl)
  clear ht0 hs0 ht1 hs1 ht2 hs2 ht3 hs3 ht4 hs4 ht5 hs5
  have HK := Lib.hid (fun w' (hw : Below w1.heap.size w1 w') => show w'.cell? ⟨p, q + 1, none⟩ = some (.int .i64 (d)) ∧ w'.cell? ⟨p, q + 2, none⟩ = some (.int .i64 (fb)) ∧ w'.cell? ⟨p, q + 3, none⟩ = some (.int .i64 (fa)) ∧ w'.cell? ⟨p, q + 6, none⟩ = some (.int .i64 (c)) ∧ Below w1.heap.size w1 w' from ⟨(HA1.out.fwd hw).c1, (HA1.out.fwd hw).c2, (HA1.out.fwd hw).c3, (HA1.out.fwd hw).c6, hw⟩)
  go_wp2_with fail
  clear a0 a1 a2 a3 a4 a5 a6 a7 hpl
  go_region_held3 (fun w' => w'.cell? ⟨p, q + 1, none⟩ = some (.int .i64 (d)) ∧ w'.cell? ⟨p, q + 2, none⟩ = some (.int .i64 (fb)) ∧ w'.cell? ⟨p, q + 3, none⟩ = some (.int .i64 (fa)) ∧ w'.cell? ⟨p, q + 6, none⟩ = some (.int .i64 (c)) ∧ Below w1.heap.size w1 w')
    (exact HK.out _ (by first | assumption | go_grown))
    (first
      | (go_at_call 101; (refine (l08Dir_any d _).mono ?_); rintro e wq ⟨rfl, hq⟩; have hr : Below w1.heap.size w1 wq := Below.trans (by first | assumption | go_grown) (hq.mono (Below.size (w := w1) (B := w1.heap.size) (by first | assumption | go_grown))); clear hq)
      | (go_at_call_of 98 (Go.Value.agg #[.int .i64 fb, .int .i64 fa]); (refine (l01Text_any fb (a := fa) ia).mono ?_); rintro e wq ⟨rfl, hq⟩; have hr : Below w1.heap.size w1 wq := Below.trans (by first | assumption | go_grown) (hq.mono (Below.size (w := w1) (B := w1.heap.size) (by first | assumption | go_grown))); clear hq)
      | (go_at_call 68; (refine (l01Dec_any ca _).mono ?_); rintro e wq ⟨rfl, hq⟩; have hr : Below w1.heap.size w1 wq := Below.trans (by first | assumption | go_grown) (hq.mono (Below.size (w := w1) (B := w1.heap.size) (by first | assumption | go_grown))); clear hq))
  go_wp2_with fail
  go_ret
  rw [← HTX.out]
  exact ⟨rfl, HB.out.trans (hr.mono HB.out.size)⟩
set_option maxHeartbeats 6400000 in
theorem l08Op_k4 {fb fa tb ta r : Int} (ia : I64 fa) (ja : I64 ta) (ra : I64 r) (f0 : fb ≠ 0) (t0 : tb ≠ 0) {w : World} {p q : Nat} (ha : OpAt w p q 4 0 fb fa tb ta 0 r) :
    Calls Tryz.prog 72 #[.pointer (some ⟨p, q, none⟩)] w fun e w' => e = .returned (.string (opTx 4 0 fb fa tb ta 0 r)) ∧ Below w.heap.size w w' := by
  have HA := Lib.hid ha
  clear ha
  have HW : Hid (opW 4 0 fb fa tb ta 0 r = [kw 4, ndS fb fa, ndS tb ta]) := Lib.hid (by unfold opW; simp [f0, t0])
  clear f0 t0
  go_enter Tryz.func72, Tryz.ntmps72
  obtain ⟨a0, a1, a2, a3, a4, a5, a6, a7⟩ := HA.out
  have hpl := block_lt_of_cell a0
  go_upto_region 1 with fail
  go_cut [3] (fun s3 wx => s3 = .string (kw 4) ∧ Below w.heap.size w wx)
  case first =>
    clear a1 a2 a3 a4 a5 a6 a7
    go_region_with (go_at_call 69; (refine (l08Words_any _).mono ?_); rintro e wq ⟨g, rfl, hg, hq⟩; have hr : Below w.heap.size w wq := Below.trans (by first | assumption | go_grown) (hq.mono (Below.size (w := w) (B := w.heap.size) (by first | assumption | go_grown))); have hgn := hg 4 (by decide); have a0 := (HA.out.fwd hr).c0; have hpl := block_lt_of_cell a0; clear hq hg)
    all_goals (go_wp2_with fail; go_meet; exact ⟨rfl, hr⟩)
  case rest =>
  clear a0 a1 a2 a3 a4 a5 a6 a7 hpl
  obtain ⟨rfl, hb⟩ := hcut
  obtain ⟨w1, hw1⟩ : ∃ x, x = wc := ⟨_, rfl⟩
  subst hw1
  have HB := Lib.hid hb
  have HA1 := Lib.hid (HA.out.fwd hb)
  clear hb
  obtain ⟨a0, a1, a2, a3, a4, a5, a6, a7⟩ := HA1.out
  have hpl := block_lt_of_cell a0
  obtain ⟨t0, ht0, hs0, had0⟩ := cat (x := (kw 4)) (y := { data := #[32] }) (a := 5) (b := 1) (kw_size _) (by decide) (by decide)
  obtain ⟨t1, ht1, hs1, had1⟩ := cat (x := t0) (y := (ndS fb fa)) (a := 6) (b := 22) hs0 (ndS_size ia) (by decide)
  obtain ⟨t2, ht2, hs2, had2⟩ := cat (x := t1) (y := { data := #[32] }) (a := 28) (b := 1) hs1 (by decide) (by decide)
  obtain ⟨t3, ht3, hs3, had3⟩ := cat (x := t2) (y := (ndS tb ta)) (a := 29) (b := 22) hs2 (ndS_size ja) (by decide)
  have HTX : Hid (t3 = opTx 4 0 fb fa tb ta 0 r) := Lib.hid (by rw [ht3, ht2, ht1, ht0, opTx, HW.out, join3]; rfl)
  clear ht0 hs0 ht1 hs1 ht2 hs2 ht3 hs3
  have HK := Lib.hid (fun w' (hw : Below w1.heap.size w1 w') => show w'.cell? ⟨p, q + 2, none⟩ = some (.int .i64 (fb)) ∧ w'.cell? ⟨p, q + 3, none⟩ = some (.int .i64 (fa)) ∧ w'.cell? ⟨p, q + 4, none⟩ = some (.int .i64 (tb)) ∧ w'.cell? ⟨p, q + 5, none⟩ = some (.int .i64 (ta)) ∧ Below w1.heap.size w1 w' from ⟨(HA1.out.fwd hw).c2, (HA1.out.fwd hw).c3, (HA1.out.fwd hw).c4, (HA1.out.fwd hw).c5, hw⟩)
  go_wp2_with fail
  clear a0 a1 a2 a3 a4 a5 a6 a7 hpl
  go_region_held3 (fun w' => w'.cell? ⟨p, q + 2, none⟩ = some (.int .i64 (fb)) ∧ w'.cell? ⟨p, q + 3, none⟩ = some (.int .i64 (fa)) ∧ w'.cell? ⟨p, q + 4, none⟩ = some (.int .i64 (tb)) ∧ w'.cell? ⟨p, q + 5, none⟩ = some (.int .i64 (ta)) ∧ Below w1.heap.size w1 w')
    (exact HK.out _ (by first | assumption | go_grown))
    (first
      | (go_at_call_of 98 (Go.Value.agg #[.int .i64 fb, .int .i64 fa]); (refine (l01Text_any fb (a := fa) ia).mono ?_); rintro e wq ⟨rfl, hq⟩; have hr : Below w1.heap.size w1 wq := Below.trans (by first | assumption | go_grown) (hq.mono (Below.size (w := w1) (B := w1.heap.size) (by first | assumption | go_grown))); clear hq)
      | (go_at_call_of 98 (Go.Value.agg #[.int .i64 tb, .int .i64 ta]); (refine (l01Text_any tb (a := ta) ja).mono ?_); rintro e wq ⟨rfl, hq⟩; have hr : Below w1.heap.size w1 wq := Below.trans (by first | assumption | go_grown) (hq.mono (Below.size (w := w1) (B := w1.heap.size) (by first | assumption | go_grown))); clear hq))
  go_wp2_with fail
  go_ret
  rw [← HTX.out]
  exact ⟨rfl, HB.out.trans (hr.mono HB.out.size)⟩
set_option maxHeartbeats 6400000 in
theorem l08Op_k5 {d fb fa tb ta c r : Int} (ia : I64 fa) (ja : I64 ta) (ca : I64 c) (ra : I64 r) (d0 : d ≠ 0) (f0 : fb ≠ 0) (t0 : tb ≠ 0) (c0 : c ≠ 0) {w : World} {p q : Nat} (ha : OpAt w p q 5 d fb fa tb ta c r) :
    Calls Tryz.prog 72 #[.pointer (some ⟨p, q, none⟩)] w fun e w' => e = .returned (.string (opTx 5 d fb fa tb ta c r)) ∧ Below w.heap.size w w' := by
  have HA := Lib.hid ha
  clear ha
  have HW : Hid (opW 5 d fb fa tb ta c r = [kw 5, dirS d, ndS fb fa, ndS tb ta, dec c]) := Lib.hid (by unfold opW; simp [d0, f0, t0, c0])
  clear d0 f0 t0 c0
  go_enter Tryz.func72, Tryz.ntmps72
  obtain ⟨a0, a1, a2, a3, a4, a5, a6, a7⟩ := HA.out
  have hpl := block_lt_of_cell a0
  go_upto_region 1 with fail
  go_cut [3] (fun s3 wx => s3 = .string (kw 5) ∧ Below w.heap.size w wx)
  case first =>
    clear a1 a2 a3 a4 a5 a6 a7
    go_region_with (go_at_call 69; (refine (l08Words_any _).mono ?_); rintro e wq ⟨g, rfl, hg, hq⟩; have hr : Below w.heap.size w wq := Below.trans (by first | assumption | go_grown) (hq.mono (Below.size (w := w) (B := w.heap.size) (by first | assumption | go_grown))); have hgn := hg 5 (by decide); have a0 := (HA.out.fwd hr).c0; have hpl := block_lt_of_cell a0; clear hq hg)
    all_goals (go_wp2_with fail; go_meet; exact ⟨rfl, hr⟩)
  case rest =>
  clear a0 a1 a2 a3 a4 a5 a6 a7 hpl
  obtain ⟨rfl, hb⟩ := hcut
  obtain ⟨w1, hw1⟩ : ∃ x, x = wc := ⟨_, rfl⟩
  subst hw1
  have HB := Lib.hid hb
  have HA1 := Lib.hid (HA.out.fwd hb)
  clear hb
  obtain ⟨a0, a1, a2, a3, a4, a5, a6, a7⟩ := HA1.out
  have hpl := block_lt_of_cell a0
  obtain ⟨t0, ht0, hs0, had0⟩ := cat (x := (kw 5)) (y := { data := #[32] }) (a := 5) (b := 1) (kw_size _) (by decide) (by decide)
  obtain ⟨t1, ht1, hs1, had1⟩ := cat (x := t0) (y := (dirS d)) (a := 6) (b := 1) hs0 (dirS_size d) (by decide)
  obtain ⟨t2, ht2, hs2, had2⟩ := cat (x := t1) (y := { data := #[32] }) (a := 7) (b := 1) hs1 (by decide) (by decide)
  obtain ⟨t3, ht3, hs3, had3⟩ := cat (x := t2) (y := (ndS fb fa)) (a := 8) (b := 22) hs2 (ndS_size ia) (by decide)
  obtain ⟨t4, ht4, hs4, had4⟩ := cat (x := t3) (y := { data := #[32] }) (a := 30) (b := 1) hs3 (by decide) (by decide)
  obtain ⟨t5, ht5, hs5, had5⟩ := cat (x := t4) (y := (ndS tb ta)) (a := 31) (b := 22) hs4 (ndS_size ja) (by decide)
  obtain ⟨t6, ht6, hs6, had6⟩ := cat (x := t5) (y := { data := #[32] }) (a := 53) (b := 1) hs5 (by decide) (by decide)
  obtain ⟨t7, ht7, hs7, had7⟩ := cat (x := t6) (y := (dec c)) (a := 54) (b := 21) hs6 (dec_size ca) (by decide)
  have HTX : Hid (t7 = opTx 5 d fb fa tb ta c r) := Lib.hid (by rw [ht7, ht6, ht5, ht4, ht3, ht2, ht1, ht0, opTx, HW.out, join5]; rfl)
  clear ht0 hs0 ht1 hs1 ht2 hs2 ht3 hs3 ht4 hs4 ht5 hs5 ht6 hs6 ht7 hs7
  have HK := Lib.hid (fun w' (hw : Below w1.heap.size w1 w') => show w'.cell? ⟨p, q + 1, none⟩ = some (.int .i64 (d)) ∧ w'.cell? ⟨p, q + 2, none⟩ = some (.int .i64 (fb)) ∧ w'.cell? ⟨p, q + 3, none⟩ = some (.int .i64 (fa)) ∧ w'.cell? ⟨p, q + 4, none⟩ = some (.int .i64 (tb)) ∧ w'.cell? ⟨p, q + 5, none⟩ = some (.int .i64 (ta)) ∧ w'.cell? ⟨p, q + 6, none⟩ = some (.int .i64 (c)) ∧ Below w1.heap.size w1 w' from ⟨(HA1.out.fwd hw).c1, (HA1.out.fwd hw).c2, (HA1.out.fwd hw).c3, (HA1.out.fwd hw).c4, (HA1.out.fwd hw).c5, (HA1.out.fwd hw).c6, hw⟩)
  go_wp2_with fail
  clear a0 a1 a2 a3 a4 a5 a6 a7 hpl
  go_region_held3 (fun w' => w'.cell? ⟨p, q + 1, none⟩ = some (.int .i64 (d)) ∧ w'.cell? ⟨p, q + 2, none⟩ = some (.int .i64 (fb)) ∧ w'.cell? ⟨p, q + 3, none⟩ = some (.int .i64 (fa)) ∧ w'.cell? ⟨p, q + 4, none⟩ = some (.int .i64 (tb)) ∧ w'.cell? ⟨p, q + 5, none⟩ = some (.int .i64 (ta)) ∧ w'.cell? ⟨p, q + 6, none⟩ = some (.int .i64 (c)) ∧ Below w1.heap.size w1 w')
    (exact HK.out _ (by first | assumption | go_grown))
    (first
      | (go_at_call 101; (refine (l08Dir_any d _).mono ?_); rintro e wq ⟨rfl, hq⟩; have hr : Below w1.heap.size w1 wq := Below.trans (by first | assumption | go_grown) (hq.mono (Below.size (w := w1) (B := w1.heap.size) (by first | assumption | go_grown))); clear hq)
      | (go_at_call_of 98 (Go.Value.agg #[.int .i64 fb, .int .i64 fa]); (refine (l01Text_any fb (a := fa) ia).mono ?_); rintro e wq ⟨rfl, hq⟩; have hr : Below w1.heap.size w1 wq := Below.trans (by first | assumption | go_grown) (hq.mono (Below.size (w := w1) (B := w1.heap.size) (by first | assumption | go_grown))); clear hq)
      | (go_at_call_of 98 (Go.Value.agg #[.int .i64 tb, .int .i64 ta]); (refine (l01Text_any tb (a := ta) ja).mono ?_); rintro e wq ⟨rfl, hq⟩; have hr : Below w1.heap.size w1 wq := Below.trans (by first | assumption | go_grown) (hq.mono (Below.size (w := w1) (B := w1.heap.size) (by first | assumption | go_grown))); clear hq)
      | (go_at_call 68; (refine (l01Dec_any ca _).mono ?_); rintro e wq ⟨rfl, hq⟩; have hr : Below w1.heap.size w1 wq := Below.trans (by first | assumption | go_grown) (hq.mono (Below.size (w := w1) (B := w1.heap.size) (by first | assumption | go_grown))); clear hq))
  go_wp2_with fail
  go_ret
  rw [← HTX.out]
  exact ⟨rfl, HB.out.trans (hr.mono HB.out.size)⟩
set_option maxHeartbeats 6400000 in
theorem l08Op_k6 {fb fa ta r : Int} (ia : I64 fa) (ja : I64 ta) (ra : I64 r) (f0 : fb ≠ 0) {w : World} {p q : Nat} (ha : OpAt w p q 6 0 fb fa 0 ta 0 r) :
    Calls Tryz.prog 72 #[.pointer (some ⟨p, q, none⟩)] w fun e w' => e = .returned (.string (opTx 6 0 fb fa 0 ta 0 r)) ∧ Below w.heap.size w w' := by
  have HA := Lib.hid ha
  clear ha
  have HW : Hid (opW 6 0 fb fa 0 ta 0 r = [kw 6, ndS fb fa]) := Lib.hid (by unfold opW; simp [f0])
  clear f0
  go_enter Tryz.func72, Tryz.ntmps72
  obtain ⟨a0, a1, a2, a3, a4, a5, a6, a7⟩ := HA.out
  have hpl := block_lt_of_cell a0
  go_upto_region 1 with fail
  go_cut [3] (fun s3 wx => s3 = .string (kw 6) ∧ Below w.heap.size w wx)
  case first =>
    clear a1 a2 a3 a4 a5 a6 a7
    go_region_with (go_at_call 69; (refine (l08Words_any _).mono ?_); rintro e wq ⟨g, rfl, hg, hq⟩; have hr : Below w.heap.size w wq := Below.trans (by first | assumption | go_grown) (hq.mono (Below.size (w := w) (B := w.heap.size) (by first | assumption | go_grown))); have hgn := hg 6 (by decide); have a0 := (HA.out.fwd hr).c0; have hpl := block_lt_of_cell a0; clear hq hg)
    all_goals (go_wp2_with fail; go_meet; exact ⟨rfl, hr⟩)
  case rest =>
  clear a0 a1 a2 a3 a4 a5 a6 a7 hpl
  obtain ⟨rfl, hb⟩ := hcut
  obtain ⟨w1, hw1⟩ : ∃ x, x = wc := ⟨_, rfl⟩
  subst hw1
  have HB := Lib.hid hb
  have HA1 := Lib.hid (HA.out.fwd hb)
  clear hb
  obtain ⟨a0, a1, a2, a3, a4, a5, a6, a7⟩ := HA1.out
  have hpl := block_lt_of_cell a0
  obtain ⟨t0, ht0, hs0, had0⟩ := cat (x := (kw 6)) (y := { data := #[32] }) (a := 5) (b := 1) (kw_size _) (by decide) (by decide)
  obtain ⟨t1, ht1, hs1, had1⟩ := cat (x := t0) (y := (ndS fb fa)) (a := 6) (b := 22) hs0 (ndS_size ia) (by decide)
  have HTX : Hid (t1 = opTx 6 0 fb fa 0 ta 0 r) := Lib.hid (by rw [ht1, ht0, opTx, HW.out, join2]; rfl)
  clear ht0 hs0 ht1 hs1
  go_wp2_with fail
  clear a0 a1 a2 a3 a4 a5 a6 a7 hpl
  refine (l01Text_any fb (a := fa) ia).mono ?_
  rintro e wq ⟨rfl, hq⟩
  have hr := hq
  clear hq
  go_wp2_with fail
  go_ret
  rw [← HTX.out]
  exact ⟨rfl, HB.out.trans (hr.mono HB.out.size)⟩
set_option maxHeartbeats 6400000 in
theorem l08Op_k7 {fa ta r : Int} (ia : I64 fa) (ja : I64 ta) (ra : I64 r)  {w : World} {p q : Nat} (ha : OpAt w p q 7 0 0 fa 0 ta 0 r) :
    Calls Tryz.prog 72 #[.pointer (some ⟨p, q, none⟩)] w fun e w' => e = .returned (.string (opTx 7 0 0 fa 0 ta 0 r)) ∧ Below w.heap.size w w' := by
  have HA := Lib.hid ha
  clear ha
  have HW : Hid (opW 7 0 0 fa 0 ta 0 r = [kw 7, dec r]) := Lib.hid (by unfold opW; simp [])
  skip
  go_enter Tryz.func72, Tryz.ntmps72
  obtain ⟨a0, a1, a2, a3, a4, a5, a6, a7⟩ := HA.out
  have hpl := block_lt_of_cell a0
  go_upto_region 1 with fail
  go_cut [3] (fun s3 wx => s3 = .string (kw 7) ∧ Below w.heap.size w wx)
  case first =>
    clear a1 a2 a3 a4 a5 a6 a7
    go_region_with (go_at_call 69; (refine (l08Words_any _).mono ?_); rintro e wq ⟨g, rfl, hg, hq⟩; have hr : Below w.heap.size w wq := Below.trans (by first | assumption | go_grown) (hq.mono (Below.size (w := w) (B := w.heap.size) (by first | assumption | go_grown))); have hgn := hg 7 (by decide); have a0 := (HA.out.fwd hr).c0; have hpl := block_lt_of_cell a0; clear hq hg)
    all_goals (go_wp2_with fail; go_meet; exact ⟨rfl, hr⟩)
  case rest =>
  clear a0 a1 a2 a3 a4 a5 a6 a7 hpl
  obtain ⟨rfl, hb⟩ := hcut
  obtain ⟨w1, hw1⟩ : ∃ x, x = wc := ⟨_, rfl⟩
  subst hw1
  have HB := Lib.hid hb
  have HA1 := Lib.hid (HA.out.fwd hb)
  clear hb
  obtain ⟨a0, a1, a2, a3, a4, a5, a6, a7⟩ := HA1.out
  have hpl := block_lt_of_cell a0
  obtain ⟨t0, ht0, hs0, had0⟩ := cat (x := (kw 7)) (y := { data := #[32] }) (a := 5) (b := 1) (kw_size _) (by decide) (by decide)
  obtain ⟨t1, ht1, hs1, had1⟩ := cat (x := t0) (y := (dec r)) (a := 6) (b := 21) hs0 (dec_size ra) (by decide)
  have HTX : Hid (t1 = opTx 7 0 0 fa 0 ta 0 r) := Lib.hid (by rw [ht1, ht0, opTx, HW.out, join2]; rfl)
  clear ht0 hs0 ht1 hs1
  go_wp2_with fail
  clear a0 a1 a2 a3 a4 a5 a6 a7 hpl
  refine (l01Dec_any ra _).mono ?_
  rintro e wq ⟨rfl, hq⟩
  have hr := hq
  clear hq
  go_wp2_with fail
  go_ret
  rw [← HTX.out]
  exact ⟨rfl, HB.out.trans (hr.mono HB.out.size)⟩
set_option maxHeartbeats 6400000 in
theorem l08Op_k8 {d fa ta c r : Int} (ia : I64 fa) (ja : I64 ta) (ca : I64 c) (ra : I64 r) (d0 : d ≠ 0) (c0 : c ≠ 0) {w : World} {p q : Nat} (ha : OpAt w p q 8 d 0 fa 0 ta c r) :
    Calls Tryz.prog 72 #[.pointer (some ⟨p, q, none⟩)] w fun e w' => e = .returned (.string (opTx 8 d 0 fa 0 ta c r)) ∧ Below w.heap.size w w' := by
  have HA := Lib.hid ha
  clear ha
  have HW : Hid (opW 8 d 0 fa 0 ta c r = [kw 8, dirS d, dec c]) := Lib.hid (by unfold opW; simp [d0, c0])
  clear d0 c0
  go_enter Tryz.func72, Tryz.ntmps72
  obtain ⟨a0, a1, a2, a3, a4, a5, a6, a7⟩ := HA.out
  have hpl := block_lt_of_cell a0
  go_upto_region 1 with fail
  go_cut [3] (fun s3 wx => s3 = .string (kw 8) ∧ Below w.heap.size w wx)
  case first =>
    clear a1 a2 a3 a4 a5 a6 a7
    go_region_with (go_at_call 69; (refine (l08Words_any _).mono ?_); rintro e wq ⟨g, rfl, hg, hq⟩; have hr : Below w.heap.size w wq := Below.trans (by first | assumption | go_grown) (hq.mono (Below.size (w := w) (B := w.heap.size) (by first | assumption | go_grown))); have hgn := hg 8 (by decide); have a0 := (HA.out.fwd hr).c0; have hpl := block_lt_of_cell a0; clear hq hg)
    all_goals (go_wp2_with fail; go_meet; exact ⟨rfl, hr⟩)
  case rest =>
  clear a0 a1 a2 a3 a4 a5 a6 a7 hpl
  obtain ⟨rfl, hb⟩ := hcut
  obtain ⟨w1, hw1⟩ : ∃ x, x = wc := ⟨_, rfl⟩
  subst hw1
  have HB := Lib.hid hb
  have HA1 := Lib.hid (HA.out.fwd hb)
  clear hb
  obtain ⟨a0, a1, a2, a3, a4, a5, a6, a7⟩ := HA1.out
  have hpl := block_lt_of_cell a0
  obtain ⟨t0, ht0, hs0, had0⟩ := cat (x := (kw 8)) (y := { data := #[32] }) (a := 5) (b := 1) (kw_size _) (by decide) (by decide)
  obtain ⟨t1, ht1, hs1, had1⟩ := cat (x := t0) (y := (dirS d)) (a := 6) (b := 1) hs0 (dirS_size d) (by decide)
  obtain ⟨t2, ht2, hs2, had2⟩ := cat (x := t1) (y := { data := #[32] }) (a := 7) (b := 1) hs1 (by decide) (by decide)
  obtain ⟨t3, ht3, hs3, had3⟩ := cat (x := t2) (y := (dec c)) (a := 8) (b := 21) hs2 (dec_size ca) (by decide)
  have HTX : Hid (t3 = opTx 8 d 0 fa 0 ta c r) := Lib.hid (by rw [ht3, ht2, ht1, ht0, opTx, HW.out, join3]; rfl)
  clear ht0 hs0 ht1 hs1 ht2 hs2 ht3 hs3
  have HK := Lib.hid (fun w' (hw : Below w1.heap.size w1 w') => show w'.cell? ⟨p, q + 1, none⟩ = some (.int .i64 (d)) ∧ w'.cell? ⟨p, q + 6, none⟩ = some (.int .i64 (c)) ∧ Below w1.heap.size w1 w' from ⟨(HA1.out.fwd hw).c1, (HA1.out.fwd hw).c6, hw⟩)
  go_wp2_with fail
  clear a0 a1 a2 a3 a4 a5 a6 a7 hpl
  go_region_held3 (fun w' => w'.cell? ⟨p, q + 1, none⟩ = some (.int .i64 (d)) ∧ w'.cell? ⟨p, q + 6, none⟩ = some (.int .i64 (c)) ∧ Below w1.heap.size w1 w')
    (exact HK.out _ (by first | assumption | go_grown))
    (first
      | (go_at_call 101; (refine (l08Dir_any d _).mono ?_); rintro e wq ⟨rfl, hq⟩; have hr : Below w1.heap.size w1 wq := Below.trans (by first | assumption | go_grown) (hq.mono (Below.size (w := w1) (B := w1.heap.size) (by first | assumption | go_grown))); clear hq)
      | (go_at_call 68; (refine (l01Dec_any ca _).mono ?_); rintro e wq ⟨rfl, hq⟩; have hr : Below w1.heap.size w1 wq := Below.trans (by first | assumption | go_grown) (hq.mono (Below.size (w := w1) (B := w1.heap.size) (by first | assumption | go_grown))); clear hq))
  go_wp2_with fail
  go_ret
  rw [← HTX.out]
  exact ⟨rfl, HB.out.trans (hr.mono HB.out.size)⟩
set_option maxHeartbeats 6400000 in
theorem l08Op_k9 {fa ta c r : Int} (ia : I64 fa) (ja : I64 ta) (ca : I64 c) (ra : I64 r) (c0 : c ≠ 0) {w : World} {p q : Nat} (ha : OpAt w p q 9 0 0 fa 0 ta c r) :
    Calls Tryz.prog 72 #[.pointer (some ⟨p, q, none⟩)] w fun e w' => e = .returned (.string (opTx 9 0 0 fa 0 ta c r)) ∧ Below w.heap.size w w' := by
  have HA := Lib.hid ha
  clear ha
  have HW : Hid (opW 9 0 0 fa 0 ta c r = [kw 9, dec c]) := Lib.hid (by unfold opW; simp [c0])
  clear c0
  go_enter Tryz.func72, Tryz.ntmps72
  obtain ⟨a0, a1, a2, a3, a4, a5, a6, a7⟩ := HA.out
  have hpl := block_lt_of_cell a0
  go_upto_region 1 with fail
  go_cut [3] (fun s3 wx => s3 = .string (kw 9) ∧ Below w.heap.size w wx)
  case first =>
    clear a1 a2 a3 a4 a5 a6 a7
    go_region_with (go_at_call 69; (refine (l08Words_any _).mono ?_); rintro e wq ⟨g, rfl, hg, hq⟩; have hr : Below w.heap.size w wq := Below.trans (by first | assumption | go_grown) (hq.mono (Below.size (w := w) (B := w.heap.size) (by first | assumption | go_grown))); have hgn := hg 9 (by decide); have a0 := (HA.out.fwd hr).c0; have hpl := block_lt_of_cell a0; clear hq hg)
    all_goals (go_wp2_with fail; go_meet; exact ⟨rfl, hr⟩)
  case rest =>
  clear a0 a1 a2 a3 a4 a5 a6 a7 hpl
  obtain ⟨rfl, hb⟩ := hcut
  obtain ⟨w1, hw1⟩ : ∃ x, x = wc := ⟨_, rfl⟩
  subst hw1
  have HB := Lib.hid hb
  have HA1 := Lib.hid (HA.out.fwd hb)
  clear hb
  obtain ⟨a0, a1, a2, a3, a4, a5, a6, a7⟩ := HA1.out
  have hpl := block_lt_of_cell a0
  obtain ⟨t0, ht0, hs0, had0⟩ := cat (x := (kw 9)) (y := { data := #[32] }) (a := 5) (b := 1) (kw_size _) (by decide) (by decide)
  obtain ⟨t1, ht1, hs1, had1⟩ := cat (x := t0) (y := (dec c)) (a := 6) (b := 21) hs0 (dec_size ca) (by decide)
  have HTX : Hid (t1 = opTx 9 0 0 fa 0 ta c r) := Lib.hid (by rw [ht1, ht0, opTx, HW.out, join2]; rfl)
  clear ht0 hs0 ht1 hs1
  go_wp2_with fail
  clear a0 a1 a2 a3 a4 a5 a6 a7 hpl
  refine (l01Dec_any ca _).mono ?_
  rintro e wq ⟨rfl, hq⟩
  have hr := hq
  clear hq
  go_wp2_with fail
  go_ret
  rw [← HTX.out]
  exact ⟨rfl, HB.out.trans (hr.mono HB.out.size)⟩
theorem l08Op_any {k d fb fa tb ta c r : Int} (h : vOp k d fb fa tb ta c r = true) {w : World} {p q : Nat} (ha : OpAt w p q k d fb fa tb ta c r) :
    Calls Tryz.prog 72 #[.pointer (some ⟨p, q, none⟩)] w fun e w' => e = .returned (.string (opTx k d fb fa tb ta c r)) ∧ Below w.heap.size w w' := by
  obtain ⟨n, rfl, n1, n9, ⟨ia, ja, ca, ra⟩, -, hs⟩ := op_cases h
  clear h
  rcases hs with ⟨hn3, d0, f0, rfl, c0⟩ | ⟨rfl, rfl, f0, t0, rfl⟩ | ⟨rfl, d0, f0, t0, c0⟩ | ⟨rfl, rfl, f0, rfl, rfl⟩ | ⟨rfl, rfl, rfl, rfl, rfl⟩ | ⟨rfl, d0, rfl, rfl, c0⟩ | ⟨rfl, rfl, rfl, rfl, c0⟩
  · rcases hn3 with rfl | rfl | rfl
    · exact l08Op_k1 ia ja ca ra d0 f0 c0 ha
    · exact l08Op_k2 ia ja ca ra d0 f0 c0 ha
    · exact l08Op_k3 ia ja ca ra d0 f0 c0 ha
  · exact l08Op_k4 ia ja ra f0 t0 ha
  · exact l08Op_k5 ia ja ca ra d0 f0 t0 c0 ha
  · exact l08Op_k6 ia ja ra f0 ha
  · exact l08Op_k7 ia ja ra ha
  · exact l08Op_k8 ia ja ca ra d0 c0 ha
  · exact l08Op_k9 ia ja ca ra c0 ha
set_option maxHeartbeats 3200000 in
theorem spec_OpText_any (k d fb fa tb ta c r : Int) (w : World) :
    Calls Tryz.prog 41 #[.agg #[.int .i64 k, .int .i64 d, .int .i64 fb, .int .i64 fa, .int .i64 tb, .int .i64 ta, .int .i64 c, .int .i64 r]] w fun e w' => e = .returned (.string (opR k d fb fa tb ta c r)) ∧ Below w.heap.size w w' := by
  have hA : OpAt (w.alloc (.cells #[.int .i64 k, .int .i64 d, .int .i64 fb, .int .i64 fa, .int .i64 tb, .int .i64 ta, .int .i64 c, .int .i64 r] 38)) w.heap.size 0 k d fb fa tb ta c r := ⟨by simp, by simp, by simp, by simp, by simp, by simp, by simp, by simp⟩
  have HV := Lib.hid (l07Op_any k d fb fa tb ta c r w.heap.size 0 (w.alloc (.cells #[.int .i64 k, .int .i64 d, .int .i64 fb, .int .i64 fa, .int .i64 tb, .int .i64 ta, .int .i64 c, .int .i64 r] 38)) hA)
  have HA := Lib.hid hA
  have HB0 := Lib.hid (al1 w (.cells #[.int .i64 k, .int .i64 d, .int .i64 fb, .int .i64 fa, .int .i64 tb, .int .i64 ta, .int .i64 c, .int .i64 r] 38))
  clear hA
  cases hv : vOp k d fb fa tb ta c r
  · have HR : Hid (opR k d fb fa tb ta c r = { data := #[] }) := Lib.hid (by rw [opR, hv]; rfl)
    rw [hv] at HV
    clear hv
    go_enter Tryz.func41, Tryz.ntmps41
    go_wp2_with fail
    refine HV.out.mono ?_
    rintro e w1 ⟨rfl, hq⟩
    have HB1 := Lib.hid (HB0.out.trans (hq.mono (by simp)))
    clear hq
    go_wp2_with fail
    go_ret
    rw [HR.out]
    exact ⟨rfl, HB1.out⟩
  · have HR : Hid (opR k d fb fa tb ta c r = opTx k d fb fa tb ta c r) := Lib.hid (by rw [opR, hv]; rfl)
    have HO := Lib.hid (fun (W : World) (hW : OpAt W w.heap.size 0 k d fb fa tb ta c r) => l08Op_any hv hW)
    rw [hv] at HV
    clear hv
    go_enter Tryz.func41, Tryz.ntmps41
    go_wp2_with fail
    refine HV.out.mono ?_
    rintro e w1 ⟨rfl, hq⟩
    have HB1 := Lib.hid (HB0.out.trans (hq.mono (by simp)))
    have HA1 := Lib.hid (HA.out.fwd hq)
    clear hq
    go_wp2_with fail
    refine (HO.out _ HA1.out).mono ?_
    rintro e w2 ⟨rfl, hq⟩
    go_wp2_with fail
    go_ret
    rw [HR.out]
    exact ⟨rfl, HB1.out.trans (hq.mono HB1.out.size)⟩
end Go.Proofs.YtgmppfhokfifgaaGreatDoor
