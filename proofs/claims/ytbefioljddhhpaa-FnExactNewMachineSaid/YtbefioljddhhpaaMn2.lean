/-
  Contracts: the program's newMachine.
-/
import Derived.Test.YtbefioljddhhpaaMn
import Derived.Deep.RegionHeld3
import Derived.Deep.DeepCutAuto
namespace Go.Proofs.Ytbefioljddhhpaa
set_option maxRecDepth 10000
open Go.RowKit

theorem run_mk {P : Program} (t e : TypeId) (i : TypeInfo) (z : Value) (ht : P.underlying t = some (.slice e)) (hi : P.info? e = some i) (hz : i.zero = some z) (n : Nat) (hb : i.bytes ≤ 100) (hn : n ≤ 1000000) (w : World) :
    (Instr.makeSlice t (.int .i64 (n : Int)) (.int .i64 (n : Int))).run P w = .ok (.slice (some ⟨w.heap.size, 0, none⟩) n n) (w.alloc (.cells (madeCells z.cells (n * i.size)) e)) := by
  have h : i.bytes * n ≤ 100 * 1000000 := Nat.mul_le_mul hb hn
  have h2 : (i.bytes : Int) * (n : Int) ≤ 281474976710656 := by
    have h3 : ((i.bytes * n : Nat) : Int) ≤ 281474976710656 := by omega
    rwa [Int.natCast_mul] at h3
  have hr := run_make (P := P) w t e i z ht hi hz .i64 .i64 n n (by omega) (by omega) h2 (by omega)
  simp only [Int.toNat_natCast] at hr
  exact hr
theorem Hs.one' {w : World} {lo : Nat} {t : Itm} {S : Nat → Prop} (hlo : lo ≤ w.heap.size) (h : t.p w S) (hs : ∀ k, S k → lo ≤ k ∧ k < w.heap.size) : Hs w lo [t] := by
  classical
  refine ⟨hlo, fun b => if S b then 0 else 1, fun k u e => ?_⟩
  obtain rfl : k = 0 := by
    have := (List.getElem?_eq_some_iff.1 e).1
    simp at this; exact this
  simp at e
  subst e
  have hi : ∀ b, S b ↔ (if S b then 0 else 1) = 0 := fun b => by by_cases h : S b <;> simp [h]
  exact ⟨Itm.iff h hi, fun b hb => hs b ((hi b).2 hb)⟩
theorem ownsRow_at {w : World} {g n z : Nat} {e : TypeId} {cs : Array Value} (h : w.heap[g]? = some (.cells cs e)) (hm : n ≤ maxLen) (hs : cs.size = n * z) : w.ownsRow 0 e z (.slice (some ⟨g, 0, none⟩) n n) n cs.toList :=
  ⟨by simpa using hs, .inr ⟨g, n, cs, rfl, Nat.zero_le _, h, Nat.le_refl _, hm, hs, by rw [← hs, ← Array.length_toList, List.take_length]⟩⟩
theorem mac3 {W : World} {lo gf gb gc n : Nat} {MC : Array Value} (hMC : Hid (madeCells #[Value.slice none 0 0] n = MC)) (hn : n ≤ 24) (hf : W.heap[gf]? = some (.cells MC 25)) (hb : W.heap[gb]? = some (.cells MC 25))
    (hc : W.heap[gc]? = some (.cells #[.bool false, .int .i64 0, .bool false, .int .i64 0, .bool false, .int .i64 0, .bool false, .int .i64 0] 78)) (h1 : lo ≤ gf) (h2 : lo ≤ gb) (h3 : lo ≤ gc) (d1 : gf ≠ gb) (d2 : gf ≠ gc) (d3 : gb ≠ gc) :
    Hs W lo [mac_ (.slice (some ⟨gf, 0, none⟩) n n) (.slice (some ⟨gb, 0, none⟩) n n) (.slice (some ⟨gc, 0, none⟩) 4 4) (.slice none 0 0) (.slice none 0 0) (newM (n : Int))] := by
  have k1 := heap_lt hf
  have k2 := heap_lt hb
  have k3 := heap_lt hc
  have hl : MC.size = n * 1 := by rw [← hMC.out, size_madeCells, Nat.mul_one]
  have ht : MC.toList = List.replicate n (.slice none 0 0) := by rw [← hMC.out, toList_madeCells_one]
  refine Hs.one' (S := fun b => b = gf ∨ b = gb ∨ b = gc) (by omega) ⟨fun b => if b = gf then 0 else if b = gb then 1 else 2, ?_⟩ fun k hk => by omega
  refine ⟨?_, ?_, ?_, OwC.nil _ _ _ _, rw_nil _ _⟩
  · have h := ownsRow_at hf (z := 1) (by unfold maxLen; omega) hl
    rw [ht] at h
    have := OwS.nils (S := fun b => (b = gf ∨ b = gb ∨ b = gc) ∧ (if b = gf then 0 else if b = gb then 1 else 2) = 0) h fun g hg => by simp [Value.ownBlock] at hg; subst hg; simp
    simpa [newM] using this
  · have h := ownsRow_at hb (z := 1) (by unfold maxLen; omega) hl
    rw [ht] at h
    have := OwS.nils (S := fun b => (b = gf ∨ b = gb ∨ b = gc) ∧ (if b = gf then 0 else if b = gb then 1 else 2) = 1) h fun g hg => by simp [Value.ownBlock] at hg; subst hg; simp [Ne.symm d1]
    simpa [newM] using this
  · have h := ownsRow_at hc (z := 2) (n := 4) (by unfold maxLen; omega) rfl
    have := OwC.plain (S := fun b => (b = gf ∨ b = gb ∨ b = gc) ∧ (if b = gf then 0 else if b = gb then 1 else 2) = 2) h rfl fun g hg => by simp [Value.ownBlock] at hg; subst hg; simp [Ne.symm d2, Ne.symm d3]
    simp only [newM]
    rw [List.length_replicate, carC_made]
    exact this
theorem chain2 (w : World) (a b c d : Obj) : ((((w.alloc a).alloc b).alloc c).alloc d).heap[w.heap.size + 1]? = some b := by
  have h := alloc_at_ (w.alloc a) b
  rw [World.size_alloc] at h
  exact keep_fwd (al1 _ d) (keep_fwd (al1 _ c) h)
theorem chain3 (w : World) (a b c d : Obj) : ((((w.alloc a).alloc b).alloc c).alloc d).heap[w.heap.size + 1 + 1]? = some c := by
  have h := alloc_at_ ((w.alloc a).alloc b) c
  rw [World.size_alloc, World.size_alloc] at h
  exact keep_fwd (al1 _ d) h
theorem chain4 (w : World) (a b c d : Obj) : ((((w.alloc a).alloc b).alloc c).alloc d).heap[w.heap.size + 1 + 1 + 1]? = some d := by
  have h := alloc_at_ (((w.alloc a).alloc b).alloc c) d
  rw [World.size_alloc, World.size_alloc, World.size_alloc] at h
  exact h
theorem chainB (w : World) (a b c d : Obj) : Below w.heap.size w ((((w.alloc a).alloc b).alloc c).alloc d).drew :=
  Below.drew ((((Below.refl _ w).alloc (Nat.le_refl _) a).alloc (by simp) b).alloc (by simp; omega) c |>.alloc (by simp; omega) d)
set_option maxRecDepth 100000 in
set_option maxHeartbeats 3200000 in
theorem newMachine_any (a : Int) (w : World) (h0 : 1 ≤ a) (h1 : a ≤ 24) :
    Calls Try.prog 47 #[.int .i64 a] w fun e w' => ∃ f b c l d, e = .returned (.agg #[.int .i64 a, .int .i64 0, f, b, c, l, d]) ∧ Hs w' w.heap.size [mac_ f b c l d (newM a)] ∧ Below w.heap.size w w' := by
  have hmk : ∀ W, (Instr.makeSlice 23 (.int .i64 4) (.int .i64 4)).run Try.prog W = .ok (.slice (some ⟨W.heap.size, 0, none⟩) 4 4) (W.alloc (.cells #[.bool false, .int .i64 0, .bool false, .int .i64 0, .bool false, .int .i64 0, .bool false, .int .i64 0] 78)) := fun _ => by kernel_rfl
  obtain ⟨n, rfl⟩ : ∃ n : Nat, a = (n : Int) := ⟨a.toNat, by omega⟩
  obtain ⟨i0, hi, hz0, hz1, hz2⟩ := info_parts sl_info
  have hmk2 : ∀ W, (Instr.makeSlice 22 (.int .i64 n) (.int .i64 n)).run Try.prog W = .ok (.slice (some ⟨W.heap.size, 0, none⟩) n n) (W.alloc (.cells (madeCells #[.slice none 0 0] n) 25)) := fun W => by
    have := run_mk (P := Try.prog) 22 25 i0 (.slice none 0 0) Try.underlying22 hi hz0 n (by rw [hz2]; decide) (by omega) W
    rw [hz1, Nat.mul_one] at this
    exact this
  clear hi hz0 hz1 hz2
  generalize hMC : madeCells #[Value.slice none 0 0] n = MC at *
  have HMC := Lib.hid hMC
  clear hMC
  go_enter Try.func47, Try.ntmps47
  go_wp2_with fail
  go_region_held3 (fun w' => True) (trivial) (fail)
  · go_wp2
    refine bodyPost_ret (v := .agg #[.int .i64 n, .int .i64 0, .slice (some ⟨w.heap.size + 1, 0, none⟩) n n, .slice (some ⟨w.heap.size + 1 + 1, 0, none⟩) n n, .slice (some ⟨w.heap.size + 1 + 1 + 1, 0, none⟩) 4 4, .slice none 0 0, .slice none 0 0]) ?_ rfl ?_
    focus (simp [results, Try.results47, go_sem]; done)
    exact ⟨_, _, _, _, _, rfl, mac3 HMC (by omega) (chain2 _ _ _ _ _) (chain3 _ _ _ _ _) (chain4 _ _ _ _ _) (by omega) (by omega) (by omega) (by omega) (by omega) (by omega), chainB _ _ _ _ _⟩
  · go_wp2
    refine bodyPost_ret (v := .agg #[.int .i64 n, .int .i64 0, .slice (some ⟨w.heap.size + 1, 0, none⟩) n n, .slice (some ⟨w.heap.size + 1 + 1 + 1, 0, none⟩) n n, .slice (some ⟨w.heap.size + 1 + 1, 0, none⟩) 4 4, .slice none 0 0, .slice none 0 0]) ?_ rfl ?_
    focus (simp [results, Try.results47, go_sem]; done)
    exact ⟨_, _, _, _, _, rfl, mac3 HMC (by omega) (chain2 _ _ _ _ _) (chain4 _ _ _ _ _) (chain3 _ _ _ _ _) (by omega) (by omega) (by omega) (by omega) (by omega) (by omega), chainB _ _ _ _ _⟩
  · go_wp2
    refine bodyPost_ret (v := .agg #[.int .i64 n, .int .i64 0, .slice (some ⟨w.heap.size + 1 + 1, 0, none⟩) n n, .slice (some ⟨w.heap.size + 1, 0, none⟩) n n, .slice (some ⟨w.heap.size + 1 + 1 + 1, 0, none⟩) 4 4, .slice none 0 0, .slice none 0 0]) ?_ rfl ?_
    focus (simp [results, Try.results47, go_sem]; done)
    exact ⟨_, _, _, _, _, rfl, mac3 HMC (by omega) (chain3 _ _ _ _ _) (chain2 _ _ _ _ _) (chain4 _ _ _ _ _) (by omega) (by omega) (by omega) (by omega) (by omega) (by omega), chainB _ _ _ _ _⟩
  · go_wp2
    refine bodyPost_ret (v := .agg #[.int .i64 n, .int .i64 0, .slice (some ⟨w.heap.size + 1 + 1 + 1, 0, none⟩) n n, .slice (some ⟨w.heap.size + 1, 0, none⟩) n n, .slice (some ⟨w.heap.size + 1 + 1, 0, none⟩) 4 4, .slice none 0 0, .slice none 0 0]) ?_ rfl ?_
    focus (simp [results, Try.results47, go_sem]; done)
    exact ⟨_, _, _, _, _, rfl, mac3 HMC (by omega) (chain4 _ _ _ _ _) (chain2 _ _ _ _ _) (chain3 _ _ _ _ _) (by omega) (by omega) (by omega) (by omega) (by omega) (by omega), chainB _ _ _ _ _⟩
  · go_wp2
    refine bodyPost_ret (v := .agg #[.int .i64 n, .int .i64 0, .slice (some ⟨w.heap.size + 1 + 1, 0, none⟩) n n, .slice (some ⟨w.heap.size + 1 + 1 + 1, 0, none⟩) n n, .slice (some ⟨w.heap.size + 1, 0, none⟩) 4 4, .slice none 0 0, .slice none 0 0]) ?_ rfl ?_
    focus (simp [results, Try.results47, go_sem]; done)
    exact ⟨_, _, _, _, _, rfl, mac3 HMC (by omega) (chain3 _ _ _ _ _) (chain4 _ _ _ _ _) (chain2 _ _ _ _ _) (by omega) (by omega) (by omega) (by omega) (by omega) (by omega), chainB _ _ _ _ _⟩
  · go_wp2
    refine bodyPost_ret (v := .agg #[.int .i64 n, .int .i64 0, .slice (some ⟨w.heap.size + 1 + 1 + 1, 0, none⟩) n n, .slice (some ⟨w.heap.size + 1 + 1, 0, none⟩) n n, .slice (some ⟨w.heap.size + 1, 0, none⟩) 4 4, .slice none 0 0, .slice none 0 0]) ?_ rfl ?_
    focus (simp [results, Try.results47, go_sem]; done)
    exact ⟨_, _, _, _, _, rfl, mac3 HMC (by omega) (chain4 _ _ _ _ _) (chain3 _ _ _ _ _) (chain2 _ _ _ _ _) (by omega) (by omega) (by omega) (by omega) (by omega) (by omega), chainB _ _ _ _ _⟩
end Go.Proofs.Ytbefioljddhhpaa
