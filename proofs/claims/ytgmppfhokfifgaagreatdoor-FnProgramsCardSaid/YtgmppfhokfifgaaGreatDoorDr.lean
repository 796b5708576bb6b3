/-
  Contracts: the reference's source of choices (l00From, next, pick, one, among), over bytes.
-/
import Derived.Test.YtgmppfhokfifgaaGreatDoorBase
import Derived.Test.YtgmppfhokfifgaaGreatDoorOpen
import Derived.Test.YtgmppfhokfifgaaGreatDoorOwr
import Derived.Test.YtgmppfhokfifgaaGreatDoorMm
import Derived.Lib.QuietBelow
import Derived.Lib.EndianBits
import Derived.Deep.RegionHeld3
namespace Go.Proofs.YtgmppfhokfifgaaGreatDoor
set_option maxRecDepth 10000
open Go.RowKit Go.ChangeShapes Go.WideShapes

/-- A slice of bytes, of n of them, in blocks below B. -/
def SlB (w : World) (B : Nat) (v : Value) (bs : List Int) : Prop :=
  ∃ A c, v = .slice A bs.length c ∧ bs.length ≤ c ∧ c ≤ maxLen ∧ (∀ x ∈ bs, 0 ≤ x ∧ x ≤ 255) ∧
    (0 < bs.length → ∃ b off, A = some ⟨b, off, none⟩ ∧ b < B ∧ ∀ k, k < bs.length → w.cell? ⟨b, off + k, none⟩ = some (.int .u8 (gi bs k)))
theorem SlB.keep {w w' : World} {B : Nat} {v : Value} {bs : List Int} (h : SlB w B v bs) (hk : ∀ p : Addr, p.block < B → w'.cell? p = w.cell? p) : SlB w' B v bs := by
  obtain ⟨A, c, rfl, h1, h2, h3, h4⟩ := h
  refine ⟨A, c, rfl, h1, h2, h3, fun hp => ?_⟩
  obtain ⟨b, off, rfl, hb, hc⟩ := h4 hp
  exact ⟨b, off, rfl, hb, fun k hk' => by rw [hk _ hb]; exact hc k hk'⟩
theorem u8_wf {x : Int} (h : (Lit.int .u8 x).wf = true) : 0 ≤ x ∧ x ≤ 255 := by
  simp only [Lit.wf, IntKind.min, IntKind.max, IntKind.signed, IntKind.bits, Bool.and_eq_true] at h
  revert h
  simp
section
variable {H : Type} {enc : TypeId × Value → H} {w : World} {spare : Nat → Bool} {held : Bool}
theorem slb_trod {fuel : Nat} {cs : List Value} {x : DataW H × List MemPlace} (h : DataW.trod enc Tryz.prog w 0 spare held fuel 28 cs = some x) :
    ∃ v bs, cs = [v] ∧ SlB w w.heap.size v bs := by
  rcases open_ints Tryz.underlying28 Tryz.underlying5 (by kernel_rfl) h with ⟨hcs, _⟩ | ⟨a, len, cap, zs, hcs, _, hl, hm, hz, _, hcell, hwz⟩
  · exact ⟨_, [], hcs, none, 0, rfl, Nat.le_refl _, by simp [maxLen], by simp, fun h => absurd h (by simp)⟩
  · have hzl : len ≤ zs.length := by rw [hz]; split <;> omega
    have htl : (zs.take len).length = len := by simp; omega
    refine ⟨_, zs.take len, hcs, some a, cap, by rw [htl], by omega, hm, fun n hn => u8_wf (hwz n (List.mem_of_mem_take hn)), fun hp => ?_⟩
    rw [htl] at hp ⊢
    have h0 := hcell 0 (by omega)
    rw [show a.add 0 = a from rfl] at h0
    obtain ⟨ha, hlt⟩ := addr_of_cell h0
    refine ⟨a.block, a.off, by rw [← ha], hlt, fun k hk => ?_⟩
    have hk' := hcell k (by omega)
    rw [ha, Addr.add_lit] at hk'
    rw [hk']
    congr 2
    unfold gi
    simp [List.getD, hk]
theorem open_SlB {r : Reach} {base : Nat} {v : Value} {d : DataW H} {p : List MemPlace} (hval : Value.okWide Tryz.prog w r base 28 v) (h : DataW.Trod enc Tryz.prog w 0 spare held 28 v d p) :
    ∃ bs, SlB w w.heap.size v bs := by
  obtain ⟨a, len, cap, rfl⟩ := okWide_slice Tryz.underlying28 hval
  obtain ⟨fuel, hf⟩ := h
  obtain ⟨v, bs, hcs, hs⟩ := slb_trod hf
  simp [Value.cells] at hcs
  subst hcs
  exact ⟨bs, hs⟩
end
/-- The source at block p: its bytes, its place (at most K), its seed. -/
def Src (w : World) (p K : Nat) : Prop :=
  ∃ (cv : Value) (bs : List Int) (a s : Int), SlB w p cv bs ∧ w.cell? ⟨p, 0, none⟩ = some cv ∧ w.cell? ⟨p, 1, none⟩ = some (.int .i64 a) ∧ 0 ≤ a ∧ a ≤ K ∧ w.cell? ⟨p, 2, none⟩ = some (.int .u64 s) ∧ 0 ≤ s ∧ s < 18446744073709551616 ∧
    w.frozen? ⟨p, 1, none⟩ = false ∧ w.frozen? ⟨p, 2, none⟩ = false
theorem Src.lt {w : World} {p K : Nat} (h : Src w p K) : p < w.heap.size := by
  obtain ⟨cv, bs, a, s, -, h1, -⟩ := h
  exact block_lt_of_cell h1
theorem Src.below {w w' : World} {p K B : Nat} (h : Src w p K) (hb : Below B w w') (hB : p < B) : Src w' p K := by
  obtain ⟨cv, bs, a, s, h1, h2, h3, h4, h5, h6, h7, h8, h9, h10⟩ := h
  exact ⟨cv, bs, a, s, h1.keep fun q hq => hb.cell (by omega), by rw [hb.cell hB]; exact h2, by rw [hb.cell hB]; exact h3, h4, h5, by rw [hb.cell hB]; exact h6, h7, h8, by rw [hb.frozen hB]; exact h9, by rw [hb.frozen hB]; exact h10⟩
theorem Src.mono {w : World} {p K K' : Nat} (h : Src w p K) (hk : K ≤ K') : Src w p K' := by
  obtain ⟨cv, bs, a, s, h1, h2, h3, h4, h5, h6⟩ := h
  exact ⟨cv, bs, a, s, h1, h2, h3, h4, by omega, h6⟩
theorem Src.drewN {w : World} {p K : Nat} (h : Src w p K) (n : Nat) : Src (w.drewN n) p K := h
theorem u64_in_ (x : Int) : 0 ≤ IntKind.u64.wrap x ∧ IntKind.u64.wrap x < 18446744073709551616 := by rw [IntKind.wrap_u64]; omega
theorem low_byte (S : Int) (h0 : 0 ≤ S) (h1 : S < 18446744073709551616) : ∃ x, wrap64 (bits BinOp.and IntKind.u64 (S / 1099511627776) 255) = x ∧ 0 ≤ x ∧ x ≤ 255 := by
  have hm : bits BinOp.and IntKind.u64 (S / 1099511627776) 255 = (S / 1099511627776) % 256 := bits_mask .u64 64 (by decide) wraps_u64 8 (by decide) (S / 1099511627776) (by omega) (by omega)
  rw [hm]
  refine ⟨_, rfl, ?_, ?_⟩ <;> · unfold wrap64; omega
theorem src_set {w : World} {p K : Nat} {cv : Value} {bs : List Int} {a s : Int} (h : SlB w p cv bs) (c0 : w.cell? ⟨p, 0, none⟩ = some cv) (c1 : ∃ v, w.cell? ⟨p, 1, none⟩ = some v) (c2 : ∃ v, w.cell? ⟨p, 2, none⟩ = some v) (f1 : w.frozen? ⟨p, 1, none⟩ = false) (f2 : w.frozen? ⟨p, 2, none⟩ = false)
    (ha0 : 0 ≤ a) (haK : a ≤ K) (hs0 : 0 ≤ s) (hs1 : s < 18446744073709551616) :
    Src ((w.setCell ⟨p, 1, none⟩ (.int .i64 a)).setCell ⟨p, 2, none⟩ (.int .u64 s)) p K ∧ Chg p (p + 1) w ((w.setCell ⟨p, 1, none⟩ (.int .i64 a)).setCell ⟨p, 2, none⟩ (.int .u64 s)) := by
  obtain ⟨v1, c1⟩ := c1
  obtain ⟨v2, c2⟩ := c2
  have e21 : (w.setCell ⟨p, 1, none⟩ (.int .i64 a)).cell? ⟨p, 2, none⟩ = some v2 := by rw [World.cell?_setCell_other _ _ _ _ (by simp)]; exact c2
  have hf : ∀ q : Addr, q.block ≠ p → ((w.setCell ⟨p, 1, none⟩ (.int .i64 a)).setCell ⟨p, 2, none⟩ (.int .u64 s)).cell? q = w.cell? q := fun q hq => by
    rw [World.cell?_setCell_far _ _ _ _ (fun e => hq e.symm), World.cell?_setCell_far _ _ _ _ (fun e => hq e.symm)]
  refine ⟨⟨cv, bs, a, s, h.keep fun q hq => hf q (by omega), ?_, ?_, ha0, haK, World.cell?_setCell_same _ _ _ e21, hs0, hs1, by simpa using f1, by simpa using f2⟩, rfl, rfl, rfl, by simp [World.setCell], fun j _ hj => ?_⟩
  · rw [World.cell?_setCell_other _ _ _ _ (by simp), World.cell?_setCell_other _ _ _ _ (by simp)]; exact c0
  · rw [World.cell?_setCell_other _ _ _ _ (by simp)]; exact World.cell?_setCell_same _ _ _ c1
  · rw [Below.heap_setCell _ _ _ _ (by simp only; omega), Below.heap_setCell _ _ _ _ (by simp only; omega)]
set_option maxHeartbeats 1600000 in
theorem next_any (p K : Nat) (w : World) (h : Src w p K) (hK : K ≤ 1000000000) :
    Calls Tryz.prog 109 #[.pointer (some ⟨p, 0, none⟩)] w fun e w' => ∃ x : Int, e = .returned (.int .i64 x) ∧ 0 ≤ x ∧ x ≤ 255 ∧ Src w' p (K + 1) ∧ Chg p (p + 1) w w' := by
  obtain ⟨cv, bs, a, s, ⟨A, c, rfl, hl, hm, hbs, hcells⟩, c0, c1, ha0, haK, c2, hs0, hs1, f1, f2⟩ := h
  unfold maxLen at hm
  have HC := Lib.hid hcells
  have HBS := Lib.hid hbs
  clear hcells hbs
  go_enter Tryz.func109, Tryz.ntmps109
  by_cases hlt : a < (bs.length : Int)
  · obtain ⟨b, off, rfl, hbB, hcell⟩ := HC.out (by omega)
    obtain ⟨k, rfl⟩ : ∃ k : Nat, a = k := ⟨a.toNat, by omega⟩
    have q1 := hcell k (by omega)
    have hx := HBS.out _ (gi_mem (show k < bs.length by omega))
    generalize gi bs k = X at *
    clear hcell
    obtain ⟨x0, x1⟩ := hx
    have hle : (k : Int) + 1 ≤ (bs.length : Int) := by omega
    go_wp2
    go_quiet (fail)
    go_wp2
    go_quiet (fail)
    go_wp2
    have hS := u64_in_ (IntKind.u64.wrap (IntKind.u64.wrap (s * 6364136223846793005) + X) + 1442695040888963407)
    generalize IntKind.u64.wrap (IntKind.u64.wrap (IntKind.u64.wrap (s * 6364136223846793005) + X) + 1442695040888963407) = S at *
    go_quiet (fail)
    go_wp2
    go_ret
    obtain ⟨g1, g2⟩ := src_set (K := K + 1) (w := w) (a := k + 1) (s := S) ⟨_, c, rfl, hl, by unfold maxLen; exact hm, HBS.out, HC.out⟩ c0 ⟨_, c1⟩ ⟨_, c2⟩ f1 f2 (by omega) (by omega) hS.1 hS.2
    exact ⟨X, rfl, x0, x1, g1, g2.os, g2.tape, g2.output, g2.size, g2.block⟩
  · go_wp2
    go_quiet (fail)
    go_wp2
    have hS := u64_in_ (IntKind.u64.wrap (IntKind.u64.wrap (s * 6364136223846793005)) + 1442695040888963407)
    generalize IntKind.u64.wrap (IntKind.u64.wrap (IntKind.u64.wrap (s * 6364136223846793005)) + 1442695040888963407) = S at *
    go_quiet (fail)
    go_wp2
    obtain ⟨Y, hY, y0, y1⟩ := low_byte S hS.1 hS.2
    rw [hY]
    go_ret
    obtain ⟨g1, g2⟩ := src_set (K := K + 1) (w := w) (a := a + 1) (s := S) ⟨_, c, rfl, hl, by unfold maxLen; exact hm, HBS.out, HC.out⟩ c0 ⟨_, c1⟩ ⟨_, c2⟩ f1 f2 (by omega) (by omega) hS.1 hS.2
    exact ⟨Y, rfl, y0, y1, g1, g2.os, g2.tape, g2.output, g2.size, g2.block⟩
set_option maxHeartbeats 1600000 in
theorem pick_any (n : Int) (p K : Nat) (w : World) (h : Src w p K) (hK : K ≤ 999999000) :
    Calls Tryz.prog 79 #[.pointer (some ⟨p, 0, none⟩), .int .i64 n] w fun e w' => ∃ x : Int, e = .returned (.int .i64 x) ∧ 0 ≤ x ∧ (x = 0 ∨ x < n) ∧ Src w' p (K + 2) ∧ Chg p (p + 1) w w' := by
  by_cases h1 : n ≤ 1
  · go_enter Tryz.func79, Tryz.ntmps79
    go_wp2
    go_ret
    exact ⟨0, rfl, Int.le_refl _, .inl rfl, h.mono (by omega), Chg.refl _ _ _⟩
  · have hn0 : (n == 0) = false := by simp; omega
    by_cases h2 : 200 < n
    · go_enter Tryz.func79, Tryz.ntmps79
      go_wp2_with fail
      refine (next_any p K _ h (by omega)).mono ?_
      rintro e w1 ⟨x, rfl, x0, x1, hs, hc⟩
      go_wp2_with fail
      refine (next_any p (K + 1) _ hs (by omega)).mono ?_
      rintro e w2 ⟨y, rfl, y0, y1, hs2, hc2⟩
      go_wp2_with fail
      go_ret
      exact ⟨_, rfl, Int.emod_nonneg _ (by omega), .inr (Int.emod_lt_of_pos _ (by omega)), hs2, hc.trans hc2⟩
    · go_enter Tryz.func79, Tryz.ntmps79
      go_wp2_with fail
      refine (next_any p K _ h (by omega)).mono ?_
      rintro e w1 ⟨x, rfl, x0, x1, hs, hc⟩
      go_wp2_with fail
      go_ret
      exact ⟨_, rfl, Int.emod_nonneg _ (by omega), .inr (Int.emod_lt_of_pos _ (by omega)), hs.mono (by omega), hc⟩
theorem one_any (n : Int) (p K : Nat) (w : World) (h : Src w p K) (hK : K ≤ 999999000) :
    Calls Tryz.prog 115 #[.pointer (some ⟨p, 0, none⟩), .int .i64 n] w fun e w' => ∃ x : Bool, e = .returned (.bool x) ∧ Src w' p (K + 2) ∧ Chg p (p + 1) w w' := by
  go_enter Tryz.func115, Tryz.ntmps115
  go_wp2_with fail
  refine (pick_any n p K _ h hK).mono ?_
  rintro e w1 ⟨x, rfl, -, -, hs, hc⟩
  go_wp2_with fail
  go_ret
  exact ⟨_, rfl, hs, hc⟩
theorem Chg.then_below {lo hi : Nat} {w w2 w3 : World} (h : Chg lo hi w w2) (hb : Below w.heap.size w2 w3) : Chg lo hi w w3 :=
  ⟨hb.os.trans h.os, hb.tape.trans h.tape, hb.output.trans h.output, Nat.le_trans h.size hb.size, fun k hk hd => (hb.block k hk).trans (h.block k hk hd)⟩
theorem l00From_any (v : Value) (bs : List Int) (w : World) (h : SlB w w.heap.size v bs) :
    Calls Tryz.prog 27 #[v] w fun e w' => e = .returned (.pointer (some ⟨w.heap.size, 0, none⟩)) ∧ Src w' w.heap.size 0 ∧ Below w.heap.size w w' := by
  obtain ⟨A, c, rfl, hl, hm, hx, hc⟩ := id h
  go_enter Tryz.func27, Tryz.ntmps27
  go_wp2
  go_ret
  refine ⟨rfl, ?_, al1 _ _⟩
  refine ⟨_, bs, 0, 0, h.keep fun q hq => (al1 w _).cell hq, ?_, ?_, Int.le_refl _, by omega, ?_, Int.le_refl _, by omega, ?_, ?_⟩ <;> simp
end Go.Proofs.YtgmppfhokfifgaaGreatDoor
