/-
  Plain laws of runs of operations (runL), and a machine laid into a new box.
-/
import Derived.Test.YtgmppfhokfifgaaGpo
import Derived.Test.YtgmppfhokfifgaaMn
import Derived.Test.YtgmppfhokfifgaaGma
namespace Go.Proofs.Ytgmppfhokfifgaa
set_option maxRecDepth 10000
open Go.RowKit

def runL : Mac → Nat → List (List Int) → Mac × Int × Int
  | m, i, [] => (m, (i : Int), 0)
  | m, i, o :: os => if codeM m o = 0 then runL (stepM m o) (i + 1) os else (m, (i : Int), codeM m o)
theorem drop_glR {os : List (List Int)} {k : Nat} (hk : k < os.length) : os.drop k = gl os k :: os.drop (k + 1) := by
  rw [List.drop_eq_getElem_cons hk, gl_eq hk]
theorem runL_go {m : Mac} {os : List (List Int)} {k : Nat} (hk : k < os.length) (h : codeM m (gl os k) = 0) : runL m k (os.drop k) = runL (stepM m (gl os k)) (k + 1) (os.drop (k + 1)) := by
  rw [drop_glR hk, runL, if_pos h]
theorem runL_stop {m : Mac} {os : List (List Int)} {k : Nat} (hk : k < os.length) (h : codeM m (gl os k) ≠ 0) : runL m k (os.drop k) = (m, (k : Int), codeM m (gl os k)) := by
  rw [drop_glR hk, runL, if_neg h]
theorem runL_end {m : Mac} {os : List (List Int)} : runL m os.length (os.drop os.length) = (m, (os.length : Int), 0) := by
  rw [List.drop_length]; rfl
theorem newM_ok {n : Int} (h0 : 1 ≤ n) (h1 : n ≤ 24) : OkM (newM n) := by
  have hf : ∀ k : Nat, (List.replicate k ([] : List Int)).flatten = [] := fun k => by simp
  refine ⟨⟨h0, h1⟩, by simp [newM], by simp [newM]; omega, by simp [newM]; omega, by simp [newM], by simp [newM], fun c hc => ?_, fun k hk => absurd hk (by simp [newM]), fun xs hx => ?_, fun xs hx => ?_, by simp [newM], fun x hx => ?_, ?_⟩
  · have : c = (false, 0) := by simp [newM] at hc; exact hc
    subst this
    have e : (0 : Int) ≤ n + 3 := by omega
    simp [crOk, inR, newM, e]
  · have := (List.mem_replicate.1 hx).2; subst this; simp
  · have := (List.mem_replicate.1 hx).2; subst this; simp
  · simp [allM, newM] at hx
  · simp [allM, newM]
theorem stepM_wd (m : Mac) (o : List Int) : (stepM m o).wd = m.wd := by
  unfold stepM
  split
  · rw [(put_parts _ _ _ _).1]; rfl
  · split
    · rw [(put_parts _ _ _ _).1]; rfl
    · split
      · rw [(put_parts _ _ _ _).1]
        show ((m.carried o).moved o).wd = m.wd
        rw [(moved_parts _ _).2.2.1]; rfl
      · split
        · rfl
        · split
          · rw [(moved_parts _ _).2.2.1]
          · split
            · rw [(put_parts _ _ _ _).1]
            · split
              · rfl
              · split <;> rfl
theorem okOps_facts {n : Int} {os : List (List Int)} (h : okOps n os = true) : (1 ≤ n ∧ n ≤ 24) ∧ os.length ≤ 1500 ∧ ∀ k, k < os.length → opB (gl os k) = true ∧ gi (gl os k) 3 < n ∧ gi (gl os k) 5 < n := by
  simp only [okOps, Bool.and_eq_true, inR_iff, decide_eq_true_eq, List.all_eq_true, fitB] at h
  exact ⟨h.1.1, h.1.2, fun k hk => ⟨(h.2 _ (gl_mem hk)).1, (h.2 _ (gl_mem hk)).2⟩⟩
/-- A machine laid into a new box. -/
theorem OwM.box {w : World} {S : Nat → Prop} {f b c l d : Value} {m : Mac} (h : OwM w S f b c l d m) (hS : ∀ k, S k → k < w.heap.size) :
    OwBox (w.alloc (.cells #[.int .i64 m.wd, .int .i64 m.rk, f, b, c, l, d] 39)) (fun k => S k ∨ k = w.heap.size) w.heap.size m := by
  classical
  obtain ⟨tag, h⟩ := h
  have hk : ∀ k, S k → (w.alloc (.cells #[.int .i64 m.wd, .int .i64 m.rk, f, b, c, l, d] 39)).heap[k]? = w.heap[k]? := fun k q => Below.heap_alloc _ _ _ (hS k q)
  have h2 := h.keep hk
  have hm : ∀ t k, S k ∧ tag k = t → (S k ∨ k = w.heap.size) ∧ (if k = w.heap.size then 5 else tag k) = t := fun t k q => ⟨.inl q.1, by rw [if_neg (by have := hS k q.1; omega)]; exact q.2⟩
  exact ⟨f, b, c, l, d, fun k => if k = w.heap.size then 5 else tag k, .inr rfl, if_pos rfl, alloc_at_ w _, h2.fr.mono (hm 0), h2.bk.mono (hm 1), h2.cr.mono (hm 2), h2.lp.mono (hm 3), rw_mono h2.dr (hm 4)⟩
end Go.Proofs.Ytgmppfhokfifgaa
