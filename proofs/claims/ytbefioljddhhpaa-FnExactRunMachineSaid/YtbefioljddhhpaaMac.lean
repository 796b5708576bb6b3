/-
  Machines in memory: what they read as (Mac), to read (SlM), of the call's own (OwM, the item mac_); boxes of seven cells.
-/
import Derived.Test.YtbefioljddhhpaaMc6
import Derived.Test.YtbefioljddhhpaaMc7
namespace Go.Proofs.Ytbefioljddhhpaa
set_option maxRecDepth 10000
open Go.RowKit

structure Mac where
  wd : Int
  rk : Int
  fr : List (List Int)
  bk : List (List Int)
  cr : List (Bool × Int)
  lp : List (List Int)
  dr : List Int
/-- The five slices read as the machine's parts; all blocks lie below B. -/
structure SlM (w : World) (B : Nat) (f b c l d : Value) (m : Mac) : Prop where
  fr : SlS w B f m.fr
  bk : SlS w B b m.bk
  cr : SlK w B c m.cr
  lp : SlF w B l m.lp
  dr : Sl w B d m.dr
theorem SlM.keep {w w' : World} {B : Nat} {f b c l d : Value} {m : Mac} (h : SlM w B f b c l d m) (hk : ∀ p : Addr, p.block < B → w'.cell? p = w.cell? p) : SlM w' B f b c l d m :=
  ⟨h.fr.keep hk, h.bk.keep hk, SlC.keep h.cr hk, SlC.keep h.lp hk, Sl.keep h.dr hk⟩
theorem SlM.below {w w' : World} {B B' : Nat} {f b c l d : Value} {m : Mac} (h : SlM w B f b c l d m) (hb : Below B' w w') (hB : B ≤ B') : SlM w' B f b c l d m := h.keep fun _ hp => hb.cell (by omega)
theorem SlM.mono {w : World} {B B' : Nat} {f b c l d : Value} {m : Mac} (h : SlM w B f b c l d m) (hB : B ≤ B') : SlM w B' f b c l d m :=
  ⟨h.fr.mono hB, h.bk.mono hB, SlC.mono h.cr hB, SlC.mono h.lp hB, Sl.mono h.dr hB⟩
/-- The five parts are of the call's own, each in blocks apart from the others'. -/
structure OwP (w : World) (S : Nat → Prop) (tag : Nat → Nat) (f b c l d : Value) (m : Mac) : Prop where
  fr : OwS w (fun k => S k ∧ tag k = 0) f m.fr
  bk : OwS w (fun k => S k ∧ tag k = 1) b m.bk
  cr : OwC 78 2 w (fun k => S k ∧ tag k = 2) c m.cr.length (carC m.cr)
  lp : OwC 80 6 w (fun k => S k ∧ tag k = 3) l m.lp.length (infC m.lp)
  dr : (rw_ d m.dr).p w (fun k => S k ∧ tag k = 4)
def OwM (w : World) (S : Nat → Prop) (f b c l d : Value) (m : Mac) : Prop := ∃ tag, OwP w S tag f b c l d m
theorem OwP.keep {w w' : World} {S : Nat → Prop} {tag : Nat → Nat} {f b c l d : Value} {m : Mac} (h : OwP w S tag f b c l d m) (hk : ∀ k, S k → w'.heap[k]? = w.heap[k]?) : OwP w' S tag f b c l d m :=
  ⟨h.fr.keep fun k q => hk k q.1, h.bk.keep fun k q => hk k q.1, h.cr.keep fun k q => hk k q.1, h.lp.keep fun k q => hk k q.1, (rw_ d m.dr).keep h.dr fun k q => hk k q.1⟩
theorem OwM.keep {w w' : World} {S : Nat → Prop} {f b c l d : Value} {m : Mac} (h : OwM w S f b c l d m) (hk : ∀ k, S k → w'.heap[k]? = w.heap[k]?) : OwM w' S f b c l d m := by
  obtain ⟨tag, h⟩ := h
  exact ⟨tag, h.keep hk⟩
def mac_ (f b c l d : Value) (m : Mac) : Itm := ⟨fun w S => OwM w S f b c l d m, fun h hk => h.keep hk⟩
theorem rw_mono {w : World} {S S' : Nat → Prop} {v : Value} {xs : List Int} (h : (rw_ v xs).p w S) (hs : ∀ k, S k → S' k) : (rw_ v xs).p w S' := ⟨h.1, fun g hg => hs g (h.2 g hg)⟩
theorem OwM.mono {w : World} {S S' : Nat → Prop} {f b c l d : Value} {m : Mac} (h : OwM w S f b c l d m) (hs : ∀ k, S k → S' k) : OwM w S' f b c l d m := by
  obtain ⟨tag, h⟩ := h
  exact ⟨tag, h.fr.mono fun k q => ⟨hs k q.1, q.2⟩, h.bk.mono fun k q => ⟨hs k q.1, q.2⟩, h.cr.mono fun k q => ⟨hs k q.1, q.2⟩, h.lp.mono fun k q => ⟨hs k q.1, q.2⟩, rw_mono h.dr fun k q => ⟨hs k q.1, q.2⟩⟩
theorem rw_sl {w : World} {S : Nat → Prop} {B : Nat} {v : Value} {xs : List Int} (h : (rw_ v xs).p w S) (hB : ∀ k, S k → k < B) : Sl w B v xs := by
  obtain ⟨a, b, ho, hab, hS⟩ := ow_of_rw h
  rcases hab with h1 | h1
  · exact ho.sl (by omega)
  · exact ho.sl (by have := hB (b - 1) (hS _ (by omega) (by omega)); omega)
theorem OwM.sl {w : World} {S : Nat → Prop} {B : Nat} {f b c l d : Value} {m : Mac} (h : OwM w S f b c l d m) (hB : ∀ k, S k → k < B) : SlM w B f b c l d m := by
  obtain ⟨tag, h⟩ := h
  exact ⟨h.fr.sl fun k q => hB k q.1, h.bk.sl fun k q => hB k q.1, h.cr.sl fun k q => hB k q.1, h.lp.sl fun k q => hB k q.1, rw_sl h.dr fun k q => hB k q.1⟩
theorem Hs.rdM {w : World} {lo : Nat} (L1 : List Itm) {f b c l d : Value} {m : Mac} (L2 : List Itm) (h : Hs w lo (L1 ++ mac_ f b c l d m :: L2)) : SlM w w.heap.size f b c l d m := by
  obtain ⟨S, hp, c, _⟩ := h.at_ L1 (mac_ f b c l d m) L2
  exact OwM.sl hp fun k q => (c k q).2
/-- Five things are one machine. -/
theorem Hs.mac {w : World} {lo : Nat} {f b c l d : Value} {m : Mac} (h : Hs w lo [rws_ f m.fr, rws_ b m.bk, rc_ 78 2 c m.cr.length (carC m.cr), rc_ 80 6 l m.lp.length (infC m.lp), rw_ d m.dr]) : Hs w lo [mac_ f b c l d m] := by
  obtain ⟨h0, own, h1⟩ := h
  refine ⟨h0, fun k => if own k < 5 then 0 else 1, fun k t e => ?_⟩
  obtain rfl : k = 0 := by
    have := (List.getElem?_eq_some_iff.1 e).1
    simp at this; exact this
  simp at e
  subst e
  have hs : ∀ k, (if own k < 5 then 0 else 1) = 0 ↔ own k < 5 := fun k => by split <;> simp_all
  refine ⟨⟨own, (h1 0 _ rfl).1.mono fun k q => ⟨(hs k).2 (by omega), q⟩, (h1 1 _ rfl).1.mono fun k q => ⟨(hs k).2 (by omega), q⟩, (h1 2 _ rfl).1.mono fun k q => ⟨(hs k).2 (by omega), q⟩, (h1 3 _ rfl).1.mono fun k q => ⟨(hs k).2 (by omega), q⟩, rw_mono (h1 4 _ rfl).1 fun k q => ⟨(hs k).2 (by omega), q⟩⟩, fun k q => ?_⟩
  have := (hs k).1 q
  match hk : own k, this with
  | 0, _ => exact (h1 0 _ rfl).2 k hk
  | 1, _ => exact (h1 1 _ rfl).2 k hk
  | 2, _ => exact (h1 2 _ rfl).2 k hk
  | 3, _ => exact (h1 3 _ rfl).2 k hk
  | 4, _ => exact (h1 4 _ rfl).2 k hk
/-- A machine is five things. -/
theorem OwM.hs {w w' : World} {f b c l d : Value} {m : Mac} (hb : Below w.heap.size w w') (h : OwM w' (Iv w.heap.size w'.heap.size) f b c l d m) : Hs w' w.heap.size [mac_ f b c l d m] :=
  Hs.one (t := mac_ f b c l d m) hb.size h fun _ q => q
/-- Boxes of seven cells. -/
theorem box7_set {w : World} {g : Nat} {b0 b1 b2 b3 b4 b5 b6 : Value} {t : TypeId} (a0 a1 a2 a3 a4 a5 a6 : Value) (hx : w.heap[g]? = some (.cells #[b0, b1, b2, b3, b4, b5, b6] t)) :
    let W := ((((((w.setCell ⟨g, 0, none⟩ a0).setCell ⟨g, 1, none⟩ a1).setCell ⟨g, 2, none⟩ a2).setCell ⟨g, 3, none⟩ a3).setCell ⟨g, 4, none⟩ a4).setCell ⟨g, 5, none⟩ a5).setCell ⟨g, 6, none⟩ a6
    W.heap[g]? = some (.cells #[a0, a1, a2, a3, a4, a5, a6] t) ∧ (∀ j, j ≠ g → W.heap[j]? = w.heap[j]?) ∧ W.heap.size = w.heap.size ∧ ∀ B, B ≤ g → Below B w W := by
  intro W
  refine ⟨?_, fun j hj => ?_, by simp [W, World.setCell], fun B hB => setB hB (setB hB (setB hB (setB hB (setB hB (setB hB (setB hB (Below.refl _ _)))))))⟩
  · have s0 : (w.setCell ⟨g, 0, none⟩ a0).heap[g]? = some (.cells #[a0, b1, b2, b3, b4, b5, b6] t) := heap_setCell_at (k := 0) a0 hx
    have s1 : ((w.setCell ⟨g, 0, none⟩ a0).setCell ⟨g, 1, none⟩ a1).heap[g]? = some (.cells #[a0, a1, b2, b3, b4, b5, b6] t) := heap_setCell_at (k := 1) a1 s0
    have s2 : (((w.setCell ⟨g, 0, none⟩ a0).setCell ⟨g, 1, none⟩ a1).setCell ⟨g, 2, none⟩ a2).heap[g]? = some (.cells #[a0, a1, a2, b3, b4, b5, b6] t) := heap_setCell_at (k := 2) a2 s1
    have s3 : ((((w.setCell ⟨g, 0, none⟩ a0).setCell ⟨g, 1, none⟩ a1).setCell ⟨g, 2, none⟩ a2).setCell ⟨g, 3, none⟩ a3).heap[g]? = some (.cells #[a0, a1, a2, a3, b4, b5, b6] t) := heap_setCell_at (k := 3) a3 s2
    have s4 : (((((w.setCell ⟨g, 0, none⟩ a0).setCell ⟨g, 1, none⟩ a1).setCell ⟨g, 2, none⟩ a2).setCell ⟨g, 3, none⟩ a3).setCell ⟨g, 4, none⟩ a4).heap[g]? = some (.cells #[a0, a1, a2, a3, a4, b5, b6] t) := heap_setCell_at (k := 4) a4 s3
    have s5 : ((((((w.setCell ⟨g, 0, none⟩ a0).setCell ⟨g, 1, none⟩ a1).setCell ⟨g, 2, none⟩ a2).setCell ⟨g, 3, none⟩ a3).setCell ⟨g, 4, none⟩ a4).setCell ⟨g, 5, none⟩ a5).heap[g]? = some (.cells #[a0, a1, a2, a3, a4, a5, b6] t) := heap_setCell_at (k := 5) a5 s4
    have s6 : (((((((w.setCell ⟨g, 0, none⟩ a0).setCell ⟨g, 1, none⟩ a1).setCell ⟨g, 2, none⟩ a2).setCell ⟨g, 3, none⟩ a3).setCell ⟨g, 4, none⟩ a4).setCell ⟨g, 5, none⟩ a5).setCell ⟨g, 6, none⟩ a6).heap[g]? = some (.cells #[a0, a1, a2, a3, a4, a5, a6] t) := heap_setCell_at (k := 6) a6 s5
    exact s6
  · simp only [W]
    rw [Below.heap_setCell _ _ _ _ hj, Below.heap_setCell _ _ _ _ hj, Below.heap_setCell _ _ _ _ hj, Below.heap_setCell _ _ _ _ hj, Below.heap_setCell _ _ _ _ hj, Below.heap_setCell _ _ _ _ hj, Below.heap_setCell _ _ _ _ hj]
theorem box7 {w : World} {g : Nat} {a b c d e f h : Value} {t : TypeId} (hx : w.heap[g]? = some (.cells #[a, b, c, d, e, f, h] t)) :
    (w.cell? ⟨g, 0, none⟩ = some a ∧ w.cell? ⟨g, 1, none⟩ = some b ∧ w.cell? ⟨g, 2, none⟩ = some c ∧ w.cell? ⟨g, 3, none⟩ = some d ∧ w.cell? ⟨g, 4, none⟩ = some e ∧ w.cell? ⟨g, 5, none⟩ = some f ∧ w.cell? ⟨g, 6, none⟩ = some h) ∧ (∀ k, w.frozen? ⟨g, k, none⟩ = false) ∧ g < w.heap.size :=
  ⟨⟨cell_of_row w g 0 _ t (0, 0) hx, cell_of_row w g 1 _ t (0, 0) hx, cell_of_row w g 2 _ t (0, 0) hx, cell_of_row w g 3 _ t (0, 0) hx, cell_of_row w g 4 _ t (0, 0) hx, cell_of_row w g 5 _ t (0, 0) hx, cell_of_row w g 6 _ t (0, 0) hx⟩, fun k => by simp only [World.frozen?, hx]; simp, heap_lt hx⟩
/-- The marks of a machine. -/
def Mac.size (m : Mac) : Nat := (m.fr.length + lenSS m.fr) + (m.bk.length + lenSS m.bk) + m.cr.length + (m.lp.length + lenSS (prs m.lp)) + m.dr.length
def Mac.marks (m : Mac) : Nat := lenSS m.fr + lenSS m.bk + 2 * m.cr.length + lenSS m.lp + m.dr.length
def Mac.mark (c : Int) (m : Mac) : Mac := ⟨m.wd, m.rk, markSS c m.fr, markSS (c + lenSS m.fr) m.bk, markK (c + lenSS m.fr + lenSS m.bk) m.cr.length, markSS (c + lenSS m.fr + lenSS m.bk + 2 * m.cr.length) m.lp, countFrom (c + lenSS m.fr + lenSS m.bk + 2 * m.cr.length + lenSS m.lp) m.dr.length⟩
end Go.Proofs.Ytbefioljddhhpaa
