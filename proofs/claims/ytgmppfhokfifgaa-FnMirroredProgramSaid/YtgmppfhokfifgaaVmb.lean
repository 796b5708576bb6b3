/-
  Contracts: LoopsOn of the program and of the reference.
-/
import Derived.Test.YtgmppfhokfifgaaVm8
import Derived.Test.YtgmppfhokfifgaaVm9
namespace Go.Proofs.Ytgmppfhokfifgaa
set_option maxRecDepth 10000
open Go.RowKit

/-- The bed of a machine in memory, and the loops on one of its needles. -/
theorem SlM.bed {w : World} {B : Nat} {f b c l d : Value} {m : Mac} (h : SlM w B f b c l d m) (bed : Int) : SlS w B (if bed = 2 then b else f) (m.sd bed) := by
  unfold Mac.sd; split
  · exact h.bk
  · exact h.fr
theorem SlM.at_ {w : World} {B : Nat} {f b c l d : Value} {m : Mac} (h : SlM w B f b c l d m) {bed a : Int} (ha : a.toNat < (m.sd bed).length) :
    ∃ p o n cap u, (if bed = 2 then b else f) = .slice (some ⟨p, o, none⟩) n cap ∧ n = (m.sd bed).length ∧ w.cell? ⟨p, o + a.toNat, none⟩ = some u ∧ Sl w B u (m.on bed a) := by
  obtain ⟨A, cap, e, h2, h3, h4, h5⟩ := h.bed bed
  obtain ⟨p, o, rfl, hb, hc⟩ := h5 (by omega)
  obtain ⟨u, hu, hs⟩ := hc a.toNat ha
  exact ⟨p, o, _, cap, u, e, rfl, hu, hs⟩
set_option maxHeartbeats 800000 in
theorem l07Bed_any {x0 x1 f b x4 x5 x6 : Value} {t : TypeId} {g : Nat} {bed : Int} {w : World} (hx : w.heap[g]? = some (.cells #[x0, x1, f, b, x4, x5, x6] t)) (hb : bed = 1 ∨ bed = 2) :
    Calls Try.prog 71 #[.pointer (some ⟨g, 0, none⟩), .int .i64 bed] w fun e w' => e = .returned (if bed = 2 then b else f) ∧ w = w' := by
  obtain ⟨q2, q3, hg⟩ := cellBed hx
  clear hx
  rcases hb with rfl | rfl
  · rw [if_neg (by omega)]
    go_enter Try.func71, Try.ntmps71
    go_wp2
    go_ret
    exact ⟨rfl, rfl⟩
  · rw [if_pos rfl]
    go_enter Try.func71, Try.ntmps71
    go_wp2
    go_ret
    exact ⟨rfl, rfl⟩
set_option maxHeartbeats 1600000 in
theorem l07On_any {x0 x1 f b x4 x5 x6 : Value} {t : TypeId} {g : Nat} {bed : Int} {p o n c k : Nat} {u : Value} {w : World} (hx : w.heap[g]? = some (.cells #[x0, x1, f, b, x4, x5, x6] t)) (hb : bed = 1 ∨ bed = 2) (hk : k < n)
    (hs : (if bed = 2 then b else f) = .slice (some ⟨p, o, none⟩) n c) (hu : w.cell? ⟨p, o + k, none⟩ = some u) :
    Calls Try.prog 42 #[.pointer (some ⟨g, 0, none⟩), .agg #[.int .i64 bed, .int .i64 k]] w fun e w' => e = .returned u ∧ Below w.heap.size w w' := by
  have hlt := block_lt_of_cell hu
  have HX0 := Lib.hid hx
  have HU0 := Lib.hid hu
  have HB := Lib.hid hb
  have HS := Lib.hid hs
  clear hx hu hs hb
  go_enter Try.func42, Try.ntmps42
  go_wp2_with fail
  generalize hW : w.alloc (.cells #[.int .i64 bed, .int .i64 k] 52) = W
  have ha : Below w.heap.size w W := by rw [← hW]; exact al1 w _
  have x1 : W.heap[w.heap.size]? = some (.cells #[.int .i64 bed, .int .i64 k] 52) := by rw [← hW]; exact alloc_at_ w _
  have hu1 := (ha.cell (p := ⟨p, o + k, none⟩) hlt).trans HU0.out
  have HX := Lib.hid (keep_fwd ha HX0.out)
  have HA := Lib.hid ha
  obtain ⟨y0, y1, -, -, -⟩ := box2f x1
  clear x1 ha hW
  have hs : (if bed = 2 then b else f) = .slice (some ⟨p, o, none⟩) n c := HS.out
  have hBed : ∀ W', W'.heap[g]? = W.heap[g]? → Calls Try.prog 71 #[.pointer (some ⟨g, 0, none⟩), .int .i64 bed] W' fun e w' => e = .returned (.slice (some ⟨p, o, none⟩) n c) ∧ W' = w' := fun W' h => by
    rw [← hs]; exact l07Bed_any (h.trans HX.out) HB.out
  have HBED := Lib.hid hBed
  clear hs hBed
  go_quiet (first | (go_at_call 71; first | exact quiet_same_on (HBED.out _ rfl) | exact quiet_same_at (HBED.out _ rfl) | exact quiet_same (HBED.out _ rfl)))
  go_wp2_with fail
  go_ret
  exact ⟨rfl, below_drewN HA.out _⟩
end Go.Proofs.Ytgmppfhokfifgaa
