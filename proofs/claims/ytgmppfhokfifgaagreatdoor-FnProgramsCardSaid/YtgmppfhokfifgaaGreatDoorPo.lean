/-
  Slices of structures of int64 in memory: elements of s cells each (SlR), rows of the call's own (OwT); slices of operations (s = 8).
-/
import Derived.Test.YtgmppfhokfifgaaGreatDoorOps
import Derived.Test.YtgmppfhokfifgaaGreatDoorOwr
import Derived.Test.YtgmppfhokfifgaaGreatDoorSt
import Derived.Test.YtgmppfhokfifgaaGreatDoorSs
namespace Go.Proofs.YtgmppfhokfifgaaGreatDoor
set_option maxRecDepth 10000
open Go.RowKit

/-- A slice of elements of s numbers each. -/
def SlR (s : Nat) (w : World) (B : Nat) (v : Value) (os : List (List Int)) : Prop :=
  ∃ A c, v = .slice A os.length c ∧ os.length ≤ c ∧ c ≤ maxLen ∧ ((∀ o ∈ os, o.length = s) ∧ (A = none → c = 0)) ∧
    (0 < os.length → ∃ b off, A = some ⟨b, off, none⟩ ∧ b < B ∧ ∀ k, k < os.length → ∀ j, j < s → w.cell? ⟨b, off + k * s + j, none⟩ = some (.int .i64 (gi (gl os k) j)))
theorem SlR.keep {s : Nat} {w w' : World} {B : Nat} {v : Value} {os : List (List Int)} (h : SlR s w B v os) (hk : ∀ p : Addr, p.block < B → w'.cell? p = w.cell? p) : SlR s w' B v os := by
  obtain ⟨A, c, rfl, h1, h2, h3, h4⟩ := h
  refine ⟨A, c, rfl, h1, h2, h3, fun hp => ?_⟩
  obtain ⟨b, off, rfl, hb, hc⟩ := h4 hp
  exact ⟨b, off, rfl, hb, fun k hk' j hj => by rw [hk _ hb]; exact hc k hk' j hj⟩
theorem SlR.below {s : Nat} {w w' : World} {B B' : Nat} {v : Value} {os : List (List Int)} (h : SlR s w B v os) (hb : Below B' w w') (hB : B ≤ B') : SlR s w' B v os := h.keep fun p hp => hb.cell (by omega)
theorem SlR.mono {s : Nat} {w : World} {B B' : Nat} {v : Value} {os : List (List Int)} (h : SlR s w B v os) (hB : B ≤ B') : SlR s w B' v os := by
  obtain ⟨A, c, rfl, h1, h2, h3, h4⟩ := h
  refine ⟨A, c, rfl, h1, h2, h3, fun hp => ?_⟩
  obtain ⟨b, off, rfl, hb, hc⟩ := h4 hp
  exact ⟨b, off, rfl, by omega, hc⟩
theorem SlR.drewN {s : Nat} {w : World} {B : Nat} {v : Value} {os : List (List Int)} (h : SlR s w B v os) (n : Nat) : SlR s (w.drewN n) B v os := h
theorem SlR.nil (s : Nat) (w : World) (B : Nat) : SlR s w B (.slice none 0 0) [] := ⟨none, 0, rfl, Nat.le_refl _, by simp [maxLen], ⟨by simp, fun _ => rfl⟩, fun h => absurd h (by simp)⟩
/-- The cells of an element of eight numbers. -/
theorem opAt_of {w : World} {b o : Nat} {f : Nat → Int} (h : ∀ j, j < 8 → w.cell? ⟨b, o + j, none⟩ = some (.int .i64 (f j))) : OpAt w b o (f 0) (f 1) (f 2) (f 3) (f 4) (f 5) (f 6) (f 7) :=
  ⟨h 0 (by omega), h 1 (by omega), h 2 (by omega), h 3 (by omega), h 4 (by omega), h 5 (by omega), h 6 (by omega), h 7 (by omega)⟩
/-- Is an operation valid? -/
def opB (o : List Int) : Bool := vOp (gi o 0) (gi o 1) (gi o 2) (gi o 3) (gi o 4) (gi o 5) (gi o 6) (gi o 7)
def fitB (w : Int) (o : List Int) : Bool := decide (gi o 3 < w) && decide (gi o 5 < w)
def okOps (w : Int) (os : List (List Int)) : Bool := inR w 1 24 && decide (os.length ≤ 1500) && os.all fun o => opB o && fitB w o
theorem all_iff {os : List (List Int)} {p : List Int → Bool} : os.all p = true ↔ ∀ j, j < os.length → p (gl os j) = true := by
  rw [List.all_eq_true]
  constructor
  · intro h j hj
    exact h _ (gl_mem hj)
  · intro h o ho
    obtain ⟨j, hj, rfl⟩ := List.getElem_of_mem ho
    have := h j hj
    rw [gl_eq hj] at this
    exact this
theorem all_no {os : List (List Int)} {p : List Int → Bool} {j : Nat} (hj : j < os.length) (h : p (gl os j) = false) : os.all p = false := by
  rw [← Bool.not_eq_true]
  intro h'
  rw [all_iff.1 h' j hj] at h
  cases h
theorem SlR.opAt {w : World} {B : Nat} {pb po n c : Nat} {os : List (List Int)} (h : SlR 8 w B (.slice (some ⟨pb, po, none⟩) n c) os) {k : Nat} (hk : k < os.length) :
    n = os.length ∧ pb < w.heap.size ∧ w.cell? ⟨pb, po + k * 8, none⟩ = some (.int .i64 (gi (gl os k) 0)) ∧ w.cell? ⟨pb, po + k * 8 + 1, none⟩ = some (.int .i64 (gi (gl os k) 1)) ∧ w.cell? ⟨pb, po + k * 8 + 2, none⟩ = some (.int .i64 (gi (gl os k) 2)) ∧ w.cell? ⟨pb, po + k * 8 + 3, none⟩ = some (.int .i64 (gi (gl os k) 3)) ∧ w.cell? ⟨pb, po + k * 8 + 4, none⟩ = some (.int .i64 (gi (gl os k) 4)) ∧ w.cell? ⟨pb, po + k * 8 + 5, none⟩ = some (.int .i64 (gi (gl os k) 5)) ∧ w.cell? ⟨pb, po + k * 8 + 6, none⟩ = some (.int .i64 (gi (gl os k) 6)) ∧ w.cell? ⟨pb, po + k * 8 + 7, none⟩ = some (.int .i64 (gi (gl os k) 7)) := by
  obtain ⟨A, c', e, -, -, -, hc⟩ := h
  simp only [Value.slice.injEq] at e
  obtain ⟨rfl, rfl, rfl⟩ := e
  obtain ⟨b, off, e2, -, hcell⟩ := hc (by omega)
  simp only [Option.some.injEq, Addr.mk.injEq, and_true] at e2
  obtain ⟨rfl, rfl⟩ := e2
  have h0 := hcell k hk 0 (by omega)
  exact ⟨rfl, block_lt_of_cell h0, h0, hcell k hk 1 (by omega), hcell k hk 2 (by omega), hcell k hk 3 (by omega), hcell k hk 4 (by omega), hcell k hk 5 (by omega), hcell k hk 6 (by omega), hcell k hk 7 (by omega)⟩
theorem SlR.addr {w : World} {B : Nat} {A : Option Addr} {n c : Nat} {os : List (List Int)} (h : SlR 8 w B (.slice A n c) os) (h0 : 0 < os.length) : ∃ pb po, A = some ⟨pb, po, none⟩ := by
  obtain ⟨A', c', e, -, -, -, hc⟩ := h
  simp only [Value.slice.injEq] at e
  obtain ⟨rfl, rfl, rfl⟩ := e
  obtain ⟨b, off, e2, -, -⟩ := hc h0
  exact ⟨b, off, e2⟩
end Go.Proofs.YtgmppfhokfifgaaGreatDoor
