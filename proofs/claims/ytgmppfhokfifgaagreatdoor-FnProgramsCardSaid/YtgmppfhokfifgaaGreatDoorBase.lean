/-
  Predicates and lemmas on memory that all walks of this seat use: a slice of int64 that reads as a list (Sl), a row that the call itself has made (Ow), what a call may change (Chg).
-/
import Derived.Test.YtgmppfhokfifgaaGreatDoorRows
import Derived.WalkKit
import Derived.WalkSpells
import Derived.WalkLawsBesides
import Derived.Handy
import Derived.Deep.QuietTactic
import Derived.Deep.Draws
import Derived.BigQuiet
import Derived.WalkSmall
import Derived.Lib.Hide
namespace Go.Proofs.YtgmppfhokfifgaaGreatDoor
set_option maxRecDepth 10000
open Go.RowKit

/-- Element k of a list of numbers (a plain name: the walk does not look into it). -/
def gi (xs : List Int) (k : Nat) : Int := xs.getD k 0
theorem gi_eq {xs : List Int} {k : Nat} (h : k < xs.length) : gi xs k = xs[k] := by simp [gi, List.getD, h]
theorem gi_some {xs : List Int} {k : Nat} (h : k < xs.length) : xs[k]? = some (gi xs k) := by rw [gi_eq h]; exact List.getElem?_eq_getElem h
theorem gi_mem {xs : List Int} {k : Nat} (h : k < xs.length) : gi xs k ∈ xs := by rw [gi_eq h]; exact List.getElem_mem h
theorem take_gi {xs : List Int} {k : Nat} (h : k < xs.length) : xs.take (k + 1) = xs.take k ++ [gi xs k] := by
  rw [List.take_succ_eq_append_getElem h, gi_eq h]

/-- The slice value v reads as the numbers xs; its block lies below B. -/
def Sl (w : World) (B : Nat) (v : Value) (xs : List Int) : Prop :=
  ∃ A c, v = .slice A xs.length c ∧ xs.length ≤ c ∧ c ≤ maxLen ∧ (A = none → c = 0) ∧
    (0 < xs.length → ∃ b off, A = some ⟨b, off, none⟩ ∧ b < B ∧ ∀ k, k < xs.length → w.cell? ⟨b, off + k, none⟩ = some (.int .i64 (gi xs k)))

theorem Sl.keep {w w' : World} {B : Nat} {v : Value} {xs : List Int} (h : Sl w B v xs) (hk : ∀ p : Addr, p.block < B → w'.cell? p = w.cell? p) : Sl w' B v xs := by
  obtain ⟨A, c, h1, h2, h3, h4, h5⟩ := h
  refine ⟨A, c, h1, h2, h3, h4, fun hp => ?_⟩
  obtain ⟨b, off, e, hb, hc⟩ := h5 hp
  exact ⟨b, off, e, hb, fun k hk' => by rw [hk _ hb]; exact hc k hk'⟩
theorem Sl.below {w w' : World} {B B' : Nat} {v : Value} {xs : List Int} (h : Sl w B v xs) (hb : Below B' w w') (hB : B ≤ B') : Sl w' B v xs :=
  h.keep fun _ hp => hb.cell (by omega)
theorem Sl.mono {w : World} {B B' : Nat} {v : Value} {xs : List Int} (h : Sl w B v xs) (hB : B ≤ B') : Sl w B' v xs := by
  obtain ⟨A, c, h1, h2, h3, h4, h5⟩ := h
  refine ⟨A, c, h1, h2, h3, h4, fun hp => ?_⟩
  obtain ⟨b, off, e, hb, hc⟩ := h5 hp
  exact ⟨b, off, e, by omega, hc⟩
theorem Sl.drewN {w : World} {B : Nat} {v : Value} {xs : List Int} (h : Sl w B v xs) (n : Nat) : Sl (w.drewN n) B v xs := h
theorem Sl.len {w : World} {B : Nat} {v : Value} {xs : List Int} (h : Sl w B v xs) : xs.length ≤ 9223372036854775807 := by
  obtain ⟨A, c, h1, h2, h3, _⟩ := h
  simp only [maxLen] at h3
  omega
theorem Sl.nil (w : World) (B : Nat) : Sl w B (.slice none 0 0) [] := ⟨none, 0, rfl, Nat.le_refl _, by simp [maxLen], fun _ => rfl, fun h => absurd h (by simp)⟩
/-- The values of a list of numbers. -/
def vals (xs : List Int) : List Value := xs.map (Value.int .i64)
theorem vals_len (xs : List Int) : (vals xs).length = xs.length := by simp [vals]
theorem vals_get {xs : List Int} {k : Nat} (h : k < xs.length) : (vals xs)[k]? = some (.int .i64 (gi xs k)) := by simp [vals, gi_some h]
theorem vals_set (xs : List Int) (k : Nat) (x : Int) : (vals xs).set k (.int .i64 x) = vals (xs.set k x) := by simp [vals, List.map_set]
theorem vals_append (xs ys : List Int) : vals (xs ++ ys) = vals xs ++ vals ys := by simp [vals]
theorem vals_one (xs : List Int) : ∀ u ∈ vals xs, u.oneCell' = true := ints_oneCell .i64 xs

/-- A row of int64 that the call itself has made: its block lies from lo on and below hi. -/
def Ow (w : World) (lo hi : Nat) (v : Value) (xs : List Int) : Prop :=
  w.ownsRow lo 2 1 v xs.length (vals xs) ∧ ∀ g, v.ownBlock = some g → g < hi
theorem Ow.sl {w : World} {lo hi B : Nat} {v : Value} {xs : List Int} (h : Ow w lo hi v xs) (hB : hi ≤ B) : Sl w B v xs := by
  obtain ⟨⟨h1, h2⟩, hi'⟩ := h
  rcases h2 with ⟨rfl, h0⟩ | ⟨g, cap, cur, rfl, hlo, hh, hn, hcap, hsz, htake⟩
  · rw [List.eq_nil_of_length_eq_zero h0]
    exact Sl.nil w B
  · refine ⟨_, cap, rfl, hn, hcap, (by simp), fun hp => ⟨g, 0, rfl, ?_, fun k hk => ?_⟩⟩
    · have := hi' g rfl
      omega
    · rw [Nat.zero_add, cell_of_row w g k cur _ (0, 0) hh]
      have hv := vals_get hk
      rw [← htake, List.getElem?_take, if_pos (by omega)] at hv
      simpa using hv
theorem Ow.nil (w : World) (lo hi : Nat) : Ow w lo hi (.slice none 0 0) [] := ⟨World.ownsRow_nil w lo _ 1, by simp [Value.ownBlock]⟩
theorem Ow.keep {w w' : World} {lo hi : Nat} {v : Value} {xs : List Int} (h : Ow w lo hi v xs) (hk : ∀ k, lo ≤ k → k < hi → w'.heap[k]? = w.heap[k]?) : Ow w' lo hi v xs := by
  obtain ⟨⟨h1, h2⟩, hi'⟩ := h
  refine ⟨⟨h1, ?_⟩, hi'⟩
  rcases h2 with h2 | ⟨g, cap, cur, rfl, hlo, hh, r⟩
  · exact .inl h2
  · exact .inr ⟨g, cap, cur, rfl, hlo, by rw [hk g hlo (hi' g rfl)]; exact hh, r⟩
theorem Ow.mono {w : World} {lo hi lo' hi' : Nat} {v : Value} {xs : List Int} (h : Ow w lo hi v xs) (h1 : lo' ≤ lo) (h2 : hi ≤ hi') : Ow w lo' hi' v xs := by
  obtain ⟨⟨a, b⟩, c⟩ := h
  refine ⟨⟨a, ?_⟩, fun g hg => by have := c g hg; omega⟩
  rcases b with b | ⟨g, cap, cur, rfl, hlo, r⟩
  · exact .inl b
  · exact .inr ⟨g, cap, cur, rfl, by omega, r⟩
theorem Ow.below {w w' : World} {B lo hi : Nat} {v : Value} {xs : List Int} (h : Ow w lo hi v xs) (hb : Below B w w') (hB : hi ≤ B) : Ow w' lo hi v xs :=
  h.keep fun k _ hk => hb.block k (by omega)
theorem Ow.len {w : World} {lo hi : Nat} {v : Value} {xs : List Int} (h : Ow w lo hi v xs) : xs.length ≤ 9223372036854775807 := by
  have h1 := h.sl (Nat.le_refl _)
  exact h1.len
/-- From what a law on append or make leaves. -/
theorem Ow.of_own {w : World} {lo : Nat} {v : Value} {n : Nat} {us : List Value} {xs : List Int} (h : w.ownsRow lo 2 1 v n us) (hn : n = xs.length) (hu : us = vals xs) : Ow w lo w.heap.size v xs := by
  subst hn hu
  exact ⟨h, fun g hg => (h.lt g hg).2⟩
theorem Ow.own {w : World} {lo hi : Nat} {v : Value} {xs : List Int} (h : Ow w lo hi v xs) : w.ownsRow lo 2 1 v xs.length (vals xs) := h.1

/-- What a call may change: blocks from lo on and below hi, and new ones. -/
structure Chg (lo hi : Nat) (w w' : World) : Prop where
  os : w'.os = w.os
  tape : w'.tape = w.tape
  output : w'.output = w.output
  size : w.heap.size ≤ w'.heap.size
  block : ∀ k, k < w.heap.size → (k < lo ∨ hi ≤ k) → w'.heap[k]? = w.heap[k]?
theorem Chg.below {lo hi B : Nat} {w w' : World} (h : Chg lo hi w w') (hB : B ≤ lo) (hs : B ≤ w.heap.size) : Below B w w' :=
  ⟨h.os, h.tape, h.output, h.size, fun k hk => h.block k (by omega) (.inl (by omega))⟩
theorem Chg.sl {lo hi B : Nat} {w w' : World} {v : Value} {xs : List Int} (h : Chg lo hi w w') (s : Sl w B v xs) (hB : B ≤ lo) (hs : B ≤ w.heap.size) : Sl w' B v xs :=
  s.below (h.below hB hs) (Nat.le_refl _)
theorem Chg.ow {lo hi l2 h2 : Nat} {w w' : World} {v : Value} {xs : List Int} (h : Chg lo hi w w') (s : Ow w l2 h2 v xs) (hd : h2 ≤ lo ∨ hi ≤ l2) (hs : h2 ≤ w.heap.size) : Ow w' l2 h2 v xs :=
  s.keep fun k k1 k2 => h.block k (by omega) (by omega)

theorem below_drewN {B : Nat} {a w : World} (h : Below B a w) (n : Nat) : Below B a (w.drewN n) := ⟨h.os, h.tape, h.output, h.size, h.block⟩
theorem chg_drewN {lo hi : Nat} {a w : World} (h : Chg lo hi a w) (n : Nat) : Chg lo hi a (w.drewN n) := ⟨h.os, h.tape, h.output, h.size, h.block⟩
theorem drewN_below (w : World) (B n : Nat) : Below B w (w.drewN n) := ⟨rfl, rfl, rfl, Nat.le_refl _, fun _ _ => rfl⟩
theorem Chg.refl (lo hi : Nat) (w : World) : Chg lo hi w w := ⟨rfl, rfl, rfl, Nat.le_refl _, fun _ _ _ => rfl⟩
/-- A store into an element of a row of the call's own. -/
theorem Ow.set_ {w : World} {lo hi : Nat} {v : Value} {xs : List Int} (h : Ow w lo hi v xs) (k : Nat) (hk : k < xs.length) (x : Int) :
    ∃ g cap, v = .slice (some ⟨g, 0, none⟩) xs.length cap ∧ lo ≤ g ∧ g < hi ∧ w.cell? ⟨g, k, none⟩ = some (.int .i64 (gi xs k)) ∧ w.frozen? ⟨g, k, none⟩ = false ∧
      Ow (w.setCell ⟨g, k, none⟩ (.int .i64 x)) lo hi v (xs.set k x) ∧ Chg lo hi w (w.setCell ⟨g, k, none⟩ (.int .i64 x)) := by
  obtain ⟨h1, h2⟩ := h
  rcases h1.2 with ⟨rfl, h0⟩ | ⟨g, cap, cur, rfl, hlo, hh, r⟩
  · omega
  · have hg := h2 g rfl
    have hs := h1.stored k (.int .i64 x)
    refine ⟨g, cap, rfl, hlo, hg, ?_, h1.frozenAt k, ⟨?_, h2⟩, ⟨rfl, rfl, rfl, by simp [World.setCell], fun j _ hj2 => Below.heap_setCell _ _ _ _ (by simp only; omega)⟩⟩
    · rw [h1.cellAt k (by omega), vals_get hk]
    · rw [List.length_set, ← vals_set]
      exact hs.1
theorem Chg.trans {lo hi : Nat} {a b c : World} (h : Chg lo hi a b) (k : Chg lo hi b c) : Chg lo hi a c :=
  ⟨k.os.trans h.os, k.tape.trans h.tape, k.output.trans h.output, Nat.le_trans h.size k.size, fun i hi' hd => (k.block i (Nat.lt_of_lt_of_le hi' h.size) hd).trans (h.block i hi' hd)⟩
/-- lo ≤ a ≤ hi, as a Bool that the walk does not take apart. -/
def inR (a lo hi : Int) : Bool := decide (lo ≤ a) && decide (a ≤ hi)
theorem inR_iff {a lo hi : Int} : inR a lo hi = true ↔ lo ≤ a ∧ a ≤ hi := by
  rw [inR, Bool.and_eq_true, decide_eq_true_eq, decide_eq_true_eq]
/-- Something that lies in blocks from lo on and below hi, and stays while these stay. -/
structure Item where
  p : World → Nat → Nat → Prop
  keep : ∀ {w w' : World} {lo hi : Nat}, p w lo hi → (∀ k, lo ≤ k → k < hi → w'.heap[k]? = w.heap[k]?) → p w' lo hi
def ow (v : Value) (xs : List Int) : Item := ⟨fun w lo hi => Ow w lo hi v xs, fun h hk => h.keep hk⟩
/-- What the call has made, one behind the other, from block lo on. -/
def St (w : World) : Nat → List Item → Prop
  | lo, [] => lo ≤ w.heap.size
  | lo, t :: L => ∃ a mid, lo ≤ a ∧ t.p w a mid ∧ a ≤ mid ∧ St w mid L
theorem St.size {w : World} {lo : Nat} {L : List Item} (h : St w lo L) : lo ≤ w.heap.size := by
  induction L generalizing lo with
  | nil => exact h
  | cons t L ih => obtain ⟨a, mid, h1, _, h2, h3⟩ := h; have := ih h3; omega
theorem St.mono {w : World} {lo lo' : Nat} {L : List Item} (h : St w lo L) (hl : lo' ≤ lo) : St w lo' L := by
  cases L with
  | nil => exact Nat.le_trans hl h
  | cons t L => obtain ⟨a, mid, h1, h2, h3, h4⟩ := h; exact ⟨a, mid, by omega, h2, h3, h4⟩
theorem St.keep {w w' : World} {lo : Nat} {L : List Item} (h : St w lo L) (hs : w.heap.size ≤ w'.heap.size) (hk : ∀ k, lo ≤ k → k < w.heap.size → w'.heap[k]? = w.heap[k]?) : St w' lo L := by
  induction L generalizing lo with
  | nil => exact Nat.le_trans h hs
  | cons t L ih =>
    obtain ⟨a, mid, h1, h2, h3, h4⟩ := h
    have := h4.size
    exact ⟨a, mid, h1, t.keep h2 fun k k1 k2 => hk k (by omega) (by omega), h3, ih h4 fun k k1 k2 => hk k (by omega) k2⟩
theorem St.below {w w' : World} {lo : Nat} {L : List Item} (h : St w lo L) (hb : Below w.heap.size w w') : St w' lo L := h.keep hb.size fun k _ hk => hb.block k hk
theorem St.join {w w' : World} {lo : Nat} {L L' : List Item} (h : St w lo L) (hb : Below w.heap.size w w') (h' : St w' w.heap.size L') : St w' lo (L ++ L') := by
  induction L generalizing lo with
  | nil => exact h'.mono h
  | cons t L ih =>
    obtain ⟨a, mid, h1, h2, h3, h4⟩ := h
    have := h4.size
    exact ⟨a, mid, h1, t.keep h2 fun k k1 k2 => hb.block k (by omega), h3, ih h4⟩
theorem St.one {w : World} {lo hi : Nat} {t : Item} (h : t.p w lo hi) (h1 : lo ≤ hi) (h2 : hi ≤ w.heap.size) : St w lo [t] := ⟨lo, hi, Nat.le_refl _, h, h1, h2⟩
/-- One of the things that the call has made; another may be put into its place. -/
theorem St.at_ {w : World} {lo : Nat} (L1 : List Item) (t : Item) (L2 : List Item) (h : St w lo (L1 ++ t :: L2)) :
    ∃ a b, lo ≤ a ∧ a ≤ b ∧ b ≤ w.heap.size ∧ t.p w a b ∧ ∀ (t' : Item) (w' : World), t'.p w' a b → Chg a b w w' → St w' lo (L1 ++ t' :: L2) := by
  induction L1 generalizing lo with
  | nil =>
    obtain ⟨a, mid, h1, h2, h3, h4⟩ := h
    have := h4.size
    exact ⟨a, mid, h1, h3, this, h2, fun t' w' ht hc => ⟨a, mid, h1, ht, h3, h4.keep hc.size fun k k1 k2 => hc.block k k2 (.inr k1)⟩⟩
  | cons u L1 ih =>
    obtain ⟨a0, mid, h1, h2, h3, h4⟩ := h
    obtain ⟨a, b, g1, g2, g3, g4, g5⟩ := ih h4
    exact ⟨a, b, by omega, g2, g3, g4, fun t' w' ht hc => ⟨a0, mid, h1, u.keep h2 fun k k1 k2 => hc.block k (by omega) (.inl (by omega)), h3, g5 t' w' ht hc⟩⟩
theorem St.rd {w : World} {lo : Nat} (L1 : List Item) {v : Value} {xs : List Int} (L2 : List Item) (h : St w lo (L1 ++ ow v xs :: L2)) : Sl w w.heap.size v xs := by
  obtain ⟨a, b, _, _, h3, h4, _⟩ := h.at_ L1 (ow v xs) L2
  exact Ow.sl h4 h3
theorem bcell {W w1 : World} (hb : Below W.heap.size W w1) : (∀ b o, b < W.heap.size → w1.cell? ⟨b, o, none⟩ = W.cell? ⟨b, o, none⟩) ∧ (∀ b o, b < W.heap.size → w1.frozen? ⟨b, o, none⟩ = W.frozen? ⟨b, o, none⟩) :=
  ⟨fun b o h => hb.cell (p := ⟨b, o, none⟩) h, fun b o h => hb.frozen (p := ⟨b, o, none⟩) h⟩
theorem al1 (w : World) (o : Obj) : Below w.heap.size w (w.alloc o) := (Below.refl _ _).alloc (Nat.le_refl _) _
theorem al2 (w : World) (o p : Obj) : Below w.heap.size w ((w.alloc o).alloc p) := (al1 w o).alloc (by simp) _
theorem ret_int {k : IntKind} {a b : Int} (h : a = b) : Ending.returned (.int k a) = .returned (.int k b) := by rw [h]
theorem ret_bool {a b : Bool} (h : a = b) : Ending.returned (.bool a) = .returned (.bool b) := by rw [h]
theorem i64_info : (Tryz.prog.info? 2).map (fun i => (i.zero, i.size, i.bytes)) = some (some (.int .i64 0), 1, 8) := by kernel_rfl

/-- The two shapes of a row of the call's own. -/
theorem Ow.form {w : World} {lo hi : Nat} {v : Value} {xs : List Int} (h : Ow w lo hi v xs) :
    (v = .slice none 0 0 ∧ xs = []) ∨ ∃ g cap, v = .slice (some ⟨g, 0, none⟩) xs.length cap ∧ lo ≤ g ∧ g < hi ∧ xs.length ≤ cap ∧ cap ≤ 9223372036854775807 ∧
      ∀ k, k < xs.length → w.cell? ⟨g, k, none⟩ = some (.int .i64 (gi xs k)) := by
  obtain ⟨h1, hi'⟩ := h
  rcases h1.2 with ⟨rfl, h0⟩ | ⟨g, cap, cur, rfl, hlo, hh, hn, hcap, hsz, htake⟩
  · exact .inl ⟨rfl, List.eq_nil_of_length_eq_zero h0⟩
  · simp only [maxLen] at hcap
    exact .inr ⟨g, cap, rfl, hlo, hi' g rfl, hn, by omega, fun k hk => by rw [h1.cellAt k (by omega), vals_get hk]⟩
/-- append of one number to a row of the call's own (the number lies in a block of its own that has just been made). -/
theorem wpList_append_one {ops : Array Oper} {rest : List Oper} {o : Oper} {a : Act} {Q : Exit → Act → World → Prop} (hgd : o.guard = none) (s x : Operand)
    (ho : o.op = .call { callee := .builtin .append, args := #[s, x], argTypes := #[33, 33] })
    (w : World) (lo hi : Nat) (v : Value) (xs : List Int) (y : Int) (hs : a.eval s = v) (hx : a.eval x = .slice (some ⟨w.heap.size, 0, none⟩) 1 1)
    (hown : Ow w lo hi v xs) (hlo : lo ≤ w.heap.size) (hlen : xs.length ≤ 1000000000)
    (h : ∀ v' w', Ow w' lo w'.heap.size v' (xs ++ [y]) → w.grownBy w' v.ownBlock → (v'.ownBlock = v.ownBlock ∨ ∀ g, v'.ownBlock = some g → w.heap.size ≤ g) → wpList Tryz.prog ops Q rest (a.put o.dst v') w') :
    wpList Tryz.prog ops Q (o :: rest) a (w.alloc (.cells #[.int .i64 y] 2)) := by
  obtain ⟨i0, hi0, hz0, hz1, hz2⟩ := info_parts i64_info
  refine wpList_plain hgd fun K hK => ?_
  have hcell : ∀ j u, [Value.int .i64 y][j]? = some u → (w.alloc (.cells #[.int .i64 y] 2)).cell? ((⟨w.heap.size, 0, none⟩ : Addr).add j) = some u := cell_one_new _ _ _
  have hown' := hown.1.alloc (.cells #[.int .i64 y] 2)
  have hg0 : w.grownBy (w.alloc (.cells #[.int .i64 y] 2)) v.ownBlock := World.grownBy_alloc w _ _
  have hsz : (w.alloc (.cells #[.int .i64 y] 2)).heap.size = w.heap.size + 1 := World.size_alloc _ _
  obtain ⟨v', w', hr, h2, h3, h4⟩ := run_append_own_at (P := Tryz.prog) (w.alloc (.cells #[.int .i64 y] 2)) lo 33 o.type 2 i0 (.int .i64 0) 1 8 Tryz.underlying33 hi0 hz0 hz1 hz2 rfl (by decide) v xs.length (vals xs) hown'
    ⟨w.heap.size, 0, none⟩ 1 1 [.int .i64 y] rfl hcell (by simp [Value.oneCell']) (by simp only [maxLen]; omega) (by omega) (by omega)
  unfold Oper.wp execOp
  simp only [ho, resolve, invoke, builtin, Sem.run_bind, Sem.run_pure, Result.andThen_ok, List.map_toArray, List.map_cons, List.map_nil, hs, hx, hr]
  have hgr : w.grownBy w' v.ownBlock := ⟨h3.os, h3.tape, h3.output, by have := h3.size; omega, fun k hk hne => (h3.block k (by omega) hne).trans (hg0.block k hk hne)⟩
  refine hK _ _ (h v' w' (Ow.of_own h2 (by simp) (by simp [vals])) hgr ?_)
  rcases h4.2 with h4 | h4
  · exact .inl h4
  · exact .inr fun g hg => by rw [h4] at hg; injection hg with hg; omega
theorem Ow.al {w : World} {lo hi : Nat} {v : Value} {xs : List Int} (h : Ow w lo hi v xs) (hs : hi ≤ w.heap.size) (o : Obj) : Ow (w.alloc o) lo hi v xs :=
  h.keep fun k _ hk => Below.heap_alloc _ _ _ (by omega)
theorem Ow.dr {w : World} {lo hi : Nat} {v : Value} {xs : List Int} (h : Ow w lo hi v xs) (n : Nat) : Ow (w.drewN n) lo hi v xs := h
theorem Ow.empty (w : World) : Ow (w.alloc (.cells #[] 2)) w.heap.size (w.alloc (.cells #[] 2)).heap.size (.slice (some ⟨w.heap.size, 0, none⟩) 0 0) [] :=
  Ow.of_own (World.ownsRow_made w #[] 0 (Nat.le_refl _) (by simp [maxLen]) rfl) rfl rfl
theorem Ow.grown {w w' : World} {lo hi : Nat} {v : Value} {xs : List Int} (h : Ow w lo hi v xs) (hg : w.grownBy w' v.ownBlock) {B : Nat} (hB : B ≤ lo) (hs : B ≤ w.heap.size) : Below B w w' :=
  ⟨hg.os, hg.tape, hg.output, hg.size, fun k hk => hg.block k (by omega) fun e => by have := (h.1.lt k e.symm).1; omega⟩
/-- A struct that the call keeps in a block of its own. -/
def bx (g : Nat) (cs : Array Value) (t : TypeId) : Item := ⟨fun w lo hi => lo ≤ g ∧ g < hi ∧ w.heap[g]? = some (.cells cs t), fun ⟨a, b, h⟩ hk => ⟨a, b, by rw [hk _ a b]; exact h⟩⟩
theorem St.bx {w : World} {lo : Nat} (L1 : List Item) {g : Nat} {cs : Array Value} {t : TypeId} (L2 : List Item) (h : St w lo (L1 ++ bx g cs t :: L2)) :
    (∀ k, w.cell? ⟨g, k, none⟩ = cs[k]?) ∧ (∀ k, w.frozen? ⟨g, k, none⟩ = false) ∧ g < w.heap.size ∧ lo ≤ g := by
  obtain ⟨a, b, h1, _, h3, h4, _⟩ := h.at_ L1 (Go.Proofs.YtgmppfhokfifgaaGreatDoor.bx g cs t) L2
  obtain ⟨g1, g2, g3⟩ := h4
  exact ⟨fun k => cell_of_row w g k cs t (0, 0) g3, fun k => by simp only [World.frozen?, g3]; simp, by omega, by omega⟩
end Go.Proofs.YtgmppfhokfifgaaGreatDoor
