/-
  Plain laws of runs of operations (runL), and a machine laid into a new box.
-/
import Derived.Test.YtgmppfhokfifgaaGpo
import Derived.Test.YtgmppfhokfifgaaMn
import Derived.Test.YtgmppfhokfifgaaGma
namespace Go.Proofs.Ytgmppfhokfifgaa
set_option maxRecDepth 10000
open Go.RowKit

def runL : Mac → Nat → List (List Int) → Mac × Int × Int
  | m, i, [] => (m, (i : Int), 0)
  | m, i, o :: os => if codeM m o = 0 then runL (stepM m o) (i + 1) os else (m, (i : Int), codeM m o)
theorem newM_ok {n : Int} (h0 : 1 ≤ n) (h1 : n ≤ 24) : OkM (newM n) := by
  have hf : ∀ k : Nat, (List.replicate k ([] : List Int)).flatten = [] := fun k => by simp
  refine ⟨⟨h0, h1⟩, by simp [newM], by simp [newM]; omega, by simp [newM]; omega, by simp [newM], by simp [newM], fun c hc => ?_, fun k hk => absurd hk (by simp [newM]), fun xs hx => ?_, fun xs hx => ?_, by simp [newM], fun x hx => ?_, ?_⟩
  · have : c = (false, 0) := by simp [newM] at hc; exact hc
    subst this
    have e : (0 : Int) ≤ n + 3 := by omega
    simp [crOk, inR, newM, e]
  · have := (List.mem_replicate.1 hx).2; subst this; simp
  · have := (List.mem_replicate.1 hx).2; subst this; simp
  · simp [allM, newM] at hx
  · simp [allM, newM]
theorem stepM_wd (m : Mac) (o : List Int) : (stepM m o).wd = m.wd := by
  unfold stepM
  split
  · rw [(put_parts _ _ _ _).1]; rfl
  · split
    · rw [(put_parts _ _ _ _).1]; rfl
    · split
      · rw [(put_parts _ _ _ _).1]
        show ((m.carried o).moved o).wd = m.wd
        rw [(moved_parts _ _).2.2.1]; rfl
      · split
        · rfl
        · split
          · rw [(moved_parts _ _).2.2.1]
          · split
            · rw [(put_parts _ _ _ _).1]
            · split
              · rfl
              · split <;> rfl
/-- A machine laid into a new box. -/
theorem OwM.box {w : World} {S : Nat → Prop} {f b c l d : Value} {m : Mac} (h : OwM w S f b c l d m) (hS : ∀ k, S k → k < w.heap.size) :
    OwBox (w.alloc (.cells #[.int .i64 m.wd, .int .i64 m.rk, f, b, c, l, d] 39)) (fun k => S k ∨ k = w.heap.size) w.heap.size m := by
  classical
  obtain ⟨tag, h⟩ := h
  have hk : ∀ k, S k → (w.alloc (.cells #[.int .i64 m.wd, .int .i64 m.rk, f, b, c, l, d] 39)).heap[k]? = w.heap[k]? := fun k q => Below.heap_alloc _ _ _ (hS k q)
  have h2 := h.keep hk
  have hm : ∀ t k, S k ∧ tag k = t → (S k ∨ k = w.heap.size) ∧ (if k = w.heap.size then 5 else tag k) = t := fun t k q => ⟨.inl q.1, by rw [if_neg (by have := hS k q.1; omega)]; exact q.2⟩
  exact ⟨f, b, c, l, d, fun k => if k = w.heap.size then 5 else tag k, .inr rfl, if_pos rfl, alloc_at_ w _, h2.fr.mono (hm 0), h2.bk.mono (hm 1), h2.cr.mono (hm 2), h2.lp.mono (hm 3), rw_mono h2.dr (hm 4)⟩
end Go.Proofs.Ytgmppfhokfifgaa
