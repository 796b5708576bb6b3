/-
  Plain laws of FnMirroredProgram and FnShifted. No program in sight.
-/
import Derived.Test.YtgmppfhokfifgaaDrm
import Derived.Test.YtgmppfhokfifgaaMrp
import Derived.Test.YtgmppfhokfifgaaMir
import Derived.Test.YtgmppfhokfifgaaPrg
import Derived.Test.YtgmppfhokfifgaaGmb
import Derived.Shelf.Small.Bits
import Derived.Shelf.Strconv.Itoa0
import Derived.Ground.SlgnProg
import Derived.Shelf.SlicesE.Compact
import Derived.Ground.SlgmProg
import Derived.Shelf.SortM.Plain
import Derived.Test.YtgmppfhokfifgaaProg
import Derived.Test.YtgmppfhokfifgaaSt
import Derived.Sort.OwnSortedInts
import Derived.Test.YtgmppfhokfifgaaGpo
import Derived.Lib.SlicesCompact
namespace Go.Proofs.Ytgmppfhokfifgaa
set_option maxRecDepth 10000
open Go.RowKit

theorem okOps_of {n : Int} {os : List (List Int)} (h0 : 1 ≤ n) (h1 : n ≤ 24) (hl : os.length ≤ 1500) (h : ∀ o ∈ os, opB o = true ∧ gi o 3 < n ∧ gi o 5 < n) : okOps n os = true := by
  simp only [okOps, Bool.and_eq_true, decide_eq_true_eq, inR_iff, List.all_eq_true, fitB]
  exact ⟨⟨⟨h0, h1⟩, hl⟩, fun o ho => ⟨(h o ho).1, (h o ho).2.1, (h o ho).2.2⟩⟩
theorem DrOk.okOps {n : Int} {M : Mac} {os : List (List Int)} (h : DrOk n M os) (hn : 2 ≤ n ∧ n ≤ 6) (hl : os.length ≤ 30) : okOps n os = true :=
  okOps_of (by omega) (by omega) (by omega) fun o ho => ⟨(h.ops o ho).2.1, (h.ops o ho).2.2.1, (h.ops o ho).2.2.2⟩
theorem map_back {g k : List Int → List Int} {os : List (List Int)} (h : ∀ o ∈ os, k (g o) = o) : (os.map g).map k = os := by
  rw [List.map_map]
  calc os.map (k ∘ g) = os.map id := List.map_congr_left fun o ho => h o ho
    _ = os := List.map_id os
theorem mir_plain {n : Int} {M : Mac} {os : List (List Int)} (h : DrOk n M os) (hn : 2 ≤ n ∧ n ≤ 6) (hl : os.length ≤ 30) :
    mpA n os = (os.map (mirO n), 0) ∧ mpA n (os.map (mirO n)) = (os, 0) ∧ rmR n os = (M, (os.length : Int), 0) ∧ rmR n (os.map (mirO n)) = (mirM M, (os.length : Int), 0) := by
  have h1 := h.okOps hn hl
  have h2 : okOps n (os.map (mirO n)) = true := okOps_of (by omega) (by omega) (by simp; omega) fun o ho => by
    obtain ⟨q, hq, rfl⟩ := List.mem_map.1 ho
    obtain ⟨-, a, b, c⟩ := h.ops q hq
    exact mirO_opB a b c (by omega)
  refine ⟨by rw [mpA, if_pos h1], ?_, by rw [rmR_yes h1]; exact h.run, ?_⟩
  · rw [mpA, if_pos h2, map_back fun o ho => mirO_mirO (h.ops o ho).1]
  · rw [rmR_yes h2]
    have := mir_runL (n := n) (by omega) os (newM n) 0 (newM_ok (by omega) (by omega)) rfl fun o ho => ⟨(h.ops o ho).2.1, (h.ops o ho).2.2.1, (h.ops o ho).2.2.2⟩
    rw [mirM_new, h.run] at this
    exact this
theorem gl_mapS {g : List Int → List Int} {os : List (List Int)} {k : Nat} (h : k < os.length) : gl (os.map g) k = g (gl os k) := by
  rw [gl_eq (by simpa using h), gl_eq h, List.getElem_map]
end Go.Proofs.Ytgmppfhokfifgaa
