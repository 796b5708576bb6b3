/-
  Plain laws of runs of operations (runL), and a machine laid into a new box.
-/
import Derived.Test.YtbefioljddhhpaaGreatGpo
import Derived.Test.YtbefioljddhhpaaGreatGmg
import Derived.Test.YtbefioljddhhpaaGreatGma
import Derived.Test.YtbefioljddhhpaaGreatExe
import Derived.Test.YtbefioljddhhpaaGreatMsj
import Derived.Test.YtbefioljddhhpaaGreatGop
import Derived.Test.YtbefioljddhhpaaGreatGmk
namespace Go.Proofs.YtbefioljddhhpaaGreat
set_option maxRecDepth 10000
open Go.RowKit

/-- A machine laid into a new box. -/
theorem OwM.box {w : World} {S : Nat → Prop} {f b c l d : Value} {m : Mac} (h : OwM w S f b c l d m) (hS : ∀ k, S k → k < w.heap.size) :
    OwBox (w.alloc (.cells #[.int .i64 m.wd, .int .i64 m.rk, f, b, c, l, d] 36)) (fun k => S k ∨ k = w.heap.size) w.heap.size m := by
  classical
  obtain ⟨tag, h⟩ := h
  have hk : ∀ k, S k → (w.alloc (.cells #[.int .i64 m.wd, .int .i64 m.rk, f, b, c, l, d] 36)).heap[k]? = w.heap[k]? := fun k q => Below.heap_alloc _ _ _ (hS k q)
  have h2 := h.keep hk
  have hm : ∀ t k, S k ∧ tag k = t → (S k ∨ k = w.heap.size) ∧ (if k = w.heap.size then 5 else tag k) = t := fun t k q => ⟨.inl q.1, by rw [if_neg (by have := hS k q.1; omega)]; exact q.2⟩
  exact ⟨f, b, c, l, d, fun k => if k = w.heap.size then 5 else tag k, .inr rfl, if_pos rfl, alloc_at_ w _, h2.fr.mono (hm 0), h2.bk.mono (hm 1), h2.cr.mono (hm 2), h2.lp.mono (hm 3), rw_mono h2.dr (hm 4)⟩
end Go.Proofs.YtbefioljddhhpaaGreat
/-
  Contract: the program's run. Printed by gen_run.py.
-/
namespace Go.Proofs.YtbefioljddhhpaaGreat
set_option maxRecDepth 10000
open Go.RowKit

/-- The forms of a machine's parts. -/
theorem SlM.forms {w : World} {B : Nat} {f b c l d : Value} {m : Mac} (h : SlM w B f b c l d m) : (∃ A k, f = .slice A m.fr.length k) ∧ (∃ A k, b = .slice A m.bk.length k) ∧ (∃ A k, c = .slice A m.cr.length k) ∧ (∃ A k, l = .slice A m.lp.length k) ∧ (∃ A k, d = .slice A m.dr.length k) := by
  obtain ⟨a1, k1, e1, -⟩ := h.fr
  obtain ⟨a2, k2, e2, -⟩ := h.bk
  obtain ⟨a3, k3, e3, -⟩ := h.cr
  obtain ⟨a4, k4, e4, -⟩ := h.lp
  obtain ⟨a5, k5, e5, -⟩ := h.dr
  exact ⟨⟨a1, k1, e1⟩, ⟨a2, k2, e2⟩, ⟨a3, k3, e3⟩, ⟨a4, k4, e4⟩, ⟨a5, k5, e5⟩⟩
end Go.Proofs.YtbefioljddhhpaaGreat
/-
  Contracts: the program's RunMachine, CheckProgram. Printed by gen_rmi.py.
-/
namespace Go.Proofs.YtbefioljddhhpaaGreat
set_option maxRecDepth 10000
open Go.RowKit

/-- A machine that a call has made lies beside a box of before that is laid anew. -/
theorem Hs.lay {w0 w : World} {f b c l d : Value} {m : Mac} {r lo : Nat} {z0 z1 z2 z3 z4 z5 z6 : Value} (hb : Below w0.heap.size w0 w) (h : Hs w lo [mac_ f b c l d m]) (hr : r < lo) (hx : w.heap[r]? = some (.cells #[z0, z1, z2, z3, z4, z5, z6] 36)) (hr0 : w0.heap.size ≤ r) :
    let W := (((((((w.setCell ⟨r, 0, none⟩ (.int .i64 m.wd)).setCell ⟨r, 1, none⟩ (.int .i64 m.rk)).setCell ⟨r, 2, none⟩ f).setCell ⟨r, 3, none⟩ b).setCell ⟨r, 4, none⟩ c).setCell ⟨r, 5, none⟩ l).setCell ⟨r, 6, none⟩ d)
    W.heap[r]? = some (.cells #[.int .i64 m.wd, .int .i64 m.rk, f, b, c, l, d] 36) ∧ Hs W w0.heap.size [mac_ f b c l d m] ∧ Below w0.heap.size w0 W := by
  intro W
  obtain ⟨S, hm, hS, -⟩ := h.at_ [] _ []
  obtain ⟨e1, e2, e3, e4⟩ := box7_set (.int .i64 m.wd) (.int .i64 m.rk) f b c l d hx
  have hb2 : Below w0.heap.size w0 W := hb.trans (e4 _ hr0)
  have hm : OwM w S f b c l d m := hm
  refine ⟨e1, OwM.hs hb2 ((hm.keep fun k q => e2 k (by have := (hS k q).1; omega)).mono fun k q => ?_), hb2⟩
  have := hS k q
  exact ⟨by omega, by show k < W.heap.size; rw [e3]; exact this.2⟩
end Go.Proofs.YtbefioljddhhpaaGreat
/-
  Plain laws: the sizes of the machine that a run leaves (for the law of RunMachine).
-/
namespace Go.Proofs.YtbefioljddhhpaaGreat
set_option maxRecDepth 10000

theorem stepM_five {m : Mac} (h : Five m.lp) (o : List Int) : Five (stepM m o).lp := by
  have mk : ∀ ps, Five (m.lp ++ [infoO o ps]) := fun ps q hq => by
    rcases List.mem_append.1 hq with hq | hq
    · exact h q hq
    · simp only [List.mem_singleton] at hq
      subst hq
      simp [infoO]
  unfold stepM
  split
  · rw [(put_parts _ _ _ _).2.2.2.1]; exact mk _
  · split
    · rw [(put_parts _ _ _ _).2.2.2.1]; exact mk _
    · split
      · rw [(put_parts _ _ _ _).2.2.2.1]
        show Five (((m.carried o).moved o).lp ++ [infoO o _])
        rw [(moved_parts _ _).2.2.2.1]; exact mk _
      · split
        · exact h
        · split
          · rw [(moved_parts _ _).2.2.2.1]; exact h
          · split
            · rw [(put_parts _ _ _ _).2.2.2.1]; exact h
            · split
              · exact h
              · split <;> exact h
theorem lenSS_le {L : List (List Int)} {b : Nat} (h : ∀ xs ∈ L, xs.length ≤ b) : lenSS L ≤ b * L.length := by
  induction L with
  | nil => simp [lenSS]
  | cons a l ih =>
    have h1 := ih fun x hx => h x (by simp [hx])
    have h2 := h a (by simp)
    simp only [lenSS, List.length_cons, Nat.mul_add, Nat.mul_one]
    omega
theorem OkM.marks_le {m : Mac} (h : OkM m) (h5 : Five m.lp) : m.marks ≤ 4000 ∧ m.cr.length ≤ 4 := by
  have a1 := lenSS_le h.sf
  have a2 := lenSS_le h.sb
  have a3 : lenSS m.lp ≤ 9 * m.lp.length := lenSS_le fun xs hx => by
    obtain ⟨k, hk, rfl⟩ := List.getElem_of_mem hx
    have h1 := h.inf k hk
    simp only [infI, infB, Bool.and_eq_true, decide_eq_true_eq] at h1
    have h2 := h1.1.1.1.2
    rw [gl_eq hk, List.length_drop] at h2
    omega
  have a4 := h.drLen
  have b1 := h.fr
  have b2 := h.bk
  have b3 := h.wd
  have b4 := h.lp
  have b5 := h.cr
  have c1 : m.fr.length ≤ 24 := by omega
  have c2 : m.bk.length ≤ 24 := by omega
  unfold Mac.marks
  have := h5
  omega
end Go.Proofs.YtbefioljddhhpaaGreat
