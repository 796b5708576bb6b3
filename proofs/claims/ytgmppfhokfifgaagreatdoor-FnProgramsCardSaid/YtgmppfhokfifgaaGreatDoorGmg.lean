/-
  Contracts: the reference's l07New.
-/
import Derived.Test.YtgmppfhokfifgaaGreatDoorMst
import Derived.Laws.MakeOwn
import Derived.Deep.RegionHeld3
import Derived.Deep.DeepCutAuto
namespace Go.Proofs.YtgmppfhokfifgaaGreatDoor
set_option maxRecDepth 10000
open Go.RowKit

/-- The machine without loops and carriers; the machine of nothing. -/
def newM (a : Int) : Mac := ⟨a, 0, List.replicate a.toNat [], List.replicate a.toNat [], List.replicate 4 (false, 0), [], []⟩
def zeroM : Mac := ⟨0, 0, [], [], [], [], []⟩
theorem own4 {w w' : World} (hw : w' = w.alloc (.cells #[.bool false, .int .i64 0, .bool false, .int .i64 0, .bool false, .int .i64 0, .bool false, .int .i64 0] 126)) :
    OwC 126 2 w' (Iv w.heap.size w'.heap.size) (.slice (some ⟨w.heap.size, 0, none⟩) 4 4) 4 (carC (List.replicate 4 (false, 0))) := by
  subst hw
  have h := World.ownsRow_lit (base := w.heap.size) (e := 126) (size := 2) w #[Value.bool false, .int .i64 0, .bool false, .int .i64 0, .bool false, .int .i64 0, .bool false, .int .i64 0] 4 (Nat.le_refl _) (by simp [maxLen]) rfl
  rw [carC_made]
  exact OwC.plain h rfl fun g hg => ⟨(h.lt g hg).1, (h.lt g hg).2⟩
theorem hs_own4 (w : World) : Hs (w.alloc (.cells #[.bool false, .int .i64 0, .bool false, .int .i64 0, .bool false, .int .i64 0, .bool false, .int .i64 0] 126)) w.heap.size [rc_ 126 2 (.slice (some ⟨w.heap.size, 0, none⟩) 4 4) 4 (carC (List.replicate 4 (false, 0)))] :=
  hs_owc (own4 rfl) (al1 _ _)
theorem hs_emptyI (w : World) (g : Nat) (hg : g = w.heap.size) : Hs (w.alloc (.cells #[] 2)) w.heap.size [rw_ (.slice (some ⟨g, 0, none⟩) 0 0) []] := by
  subst hg; exact hs_ow (Ow.empty w) (al1 _ _)
theorem hs_nilS {w : World} : Hs w w.heap.size [rws_ (.slice none 0 0) []] := hs_ows (OwS.nil _ _) (Below.refl _ _)
theorem hs_nilF {w : World} : Hs w w.heap.size [rc_ 139 6 (.slice none 0 0) 0 (infC [])] := hs_owc (OwC.nil _ _ _ _) (Below.refl _ _)
theorem hs_nilI {w : World} : Hs w w.heap.size [rw_ (.slice none 0 0) []] := hs_ow (Ow.nil _ _ _) (Below.refl _ _)
set_option maxRecDepth 100000 in
set_option maxHeartbeats 6400000 in
theorem l07New_any (a : Int) (w : World) (h0 : 1 ≤ a) (h1 : a ≤ 24) :
    Calls Tryz.prog 78 #[.int .i64 a] w fun e w' => ∃ f b c l d, e = .returned (.agg #[.int .i64 a, .int .i64 0, f, b, c, l, d]) ∧ Hs w' w.heap.size [mac_ f b c l d (newM a)] ∧ Below w.heap.size w w' := by
  have hmk : ∀ W, (Instr.makeSlice 72 (.int .i64 4) (.int .i64 4)).run Tryz.prog W = .ok (.slice (some ⟨W.heap.size, 0, none⟩) 4 4) (W.alloc (.cells #[.bool false, .int .i64 0, .bool false, .int .i64 0, .bool false, .int .i64 0, .bool false, .int .i64 0] 126)) := fun _ => by kernel_rfl
  obtain ⟨n, rfl⟩ : ∃ n : Nat, a = (n : Int) := ⟨a.toNat, by omega⟩
  have e1 : (w.alloc (.cells #[.int .i64 0, .int .i64 0, .slice none 0 0, .slice none 0 0, .slice none 0 0, .slice none 0 0, .slice none 0 0] 75)).heap.size = w.heap.size + 1 := by simp
  have e2 : ((w.alloc (.cells #[.int .i64 0, .int .i64 0, .slice none 0 0, .slice none 0 0, .slice none 0 0, .slice none 0 0, .slice none 0 0] 75)).alloc (.cells #[.bool false, .int .i64 0, .bool false, .int .i64 0, .bool false, .int .i64 0, .bool false, .int .i64 0] 126)).heap.size = w.heap.size + 1 + 1 := by simp
  have hS : Hs (((w.alloc (.cells #[.int .i64 0, .int .i64 0, .slice none 0 0, .slice none 0 0, .slice none 0 0, .slice none 0 0, .slice none 0 0] 75)).alloc (.cells #[.bool false, .int .i64 0, .bool false, .int .i64 0, .bool false, .int .i64 0, .bool false, .int .i64 0] 126)).alloc (.cells #[.int .i64 n, .int .i64 0, .slice none 0 0, .slice none 0 0, .slice (some ⟨w.heap.size + 1, 0, none⟩) 4 4, .slice none 0 0, .slice none 0 0] 75)) w.heap.size [bx_ (w.heap.size) #[.int .i64 0, .int .i64 0, .slice none 0 0, .slice none 0 0, .slice none 0 0, .slice none 0 0, .slice none 0 0] 75, rc_ 126 2 (.slice (some ⟨w.heap.size + 1, 0, none⟩) 4 4) 4 (carC (List.replicate 4 (false, 0))), bx_ (w.heap.size + 1 + 1) #[.int .i64 n, .int .i64 0, .slice none 0 0, .slice none 0 0, .slice (some ⟨w.heap.size + 1, 0, none⟩) 4 4, .slice none 0 0, .slice none 0 0] 75, rws_ (.slice none 0 0) (List.replicate 0 []), rws_ (.slice none 0 0) (List.replicate 0 [])] := by
    have q1 := (hs_bx w #[.int .i64 0, .int .i64 0, .slice none 0 0, .slice none 0 0, .slice none 0 0, .slice none 0 0, .slice none 0 0] 75).join (al1 (w.alloc (.cells #[.int .i64 0, .int .i64 0, .slice none 0 0, .slice none 0 0, .slice none 0 0, .slice none 0 0, .slice none 0 0] 75)) (.cells #[.bool false, .int .i64 0, .bool false, .int .i64 0, .bool false, .int .i64 0, .bool false, .int .i64 0] 126)) (hs_own4 (w.alloc (.cells #[.int .i64 0, .int .i64 0, .slice none 0 0, .slice none 0 0, .slice none 0 0, .slice none 0 0, .slice none 0 0] 75)))
    rw [e1] at q1
    have q2 := q1.join (al1 ((w.alloc (.cells #[.int .i64 0, .int .i64 0, .slice none 0 0, .slice none 0 0, .slice none 0 0, .slice none 0 0, .slice none 0 0] 75)).alloc (.cells #[.bool false, .int .i64 0, .bool false, .int .i64 0, .bool false, .int .i64 0, .bool false, .int .i64 0] 126)) (.cells #[.int .i64 n, .int .i64 0, .slice none 0 0, .slice none 0 0, .slice (some ⟨w.heap.size + 1, 0, none⟩) 4 4, .slice none 0 0, .slice none 0 0] 75)) (hs_bx ((w.alloc (.cells #[.int .i64 0, .int .i64 0, .slice none 0 0, .slice none 0 0, .slice none 0 0, .slice none 0 0, .slice none 0 0] 75)).alloc (.cells #[.bool false, .int .i64 0, .bool false, .int .i64 0, .bool false, .int .i64 0, .bool false, .int .i64 0] 126)) #[.int .i64 n, .int .i64 0, .slice none 0 0, .slice none 0 0, .slice (some ⟨w.heap.size + 1, 0, none⟩) 4 4, .slice none 0 0, .slice none 0 0] 75)
    rw [e2] at q2
    exact (q2.join (Below.refl _ _) hs_nilS).join (Below.refl _ _) hs_nilS
  have hb : Below w.heap.size w (((w.alloc (.cells #[.int .i64 0, .int .i64 0, .slice none 0 0, .slice none 0 0, .slice none 0 0, .slice none 0 0, .slice none 0 0] 75)).alloc (.cells #[.bool false, .int .i64 0, .bool false, .int .i64 0, .bool false, .int .i64 0, .bool false, .int .i64 0] 126)).alloc (.cells #[.int .i64 n, .int .i64 0, .slice none 0 0, .slice none 0 0, .slice (some ⟨w.heap.size + 1, 0, none⟩) 4 4, .slice none 0 0, .slice none 0 0] 75)) := (al1 w _).trans (((al1 (w.alloc (.cells #[.int .i64 0, .int .i64 0, .slice none 0 0, .slice none 0 0, .slice none 0 0, .slice none 0 0, .slice none 0 0] 75)) _).trans ((al1 ((w.alloc (.cells #[.int .i64 0, .int .i64 0, .slice none 0 0, .slice none 0 0, .slice none 0 0, .slice none 0 0, .slice none 0 0] 75)).alloc (.cells #[.bool false, .int .i64 0, .bool false, .int .i64 0, .bool false, .int .i64 0, .bool false, .int .i64 0] 126)) _).mono (by simp))).mono (by simp))
  have HS0 := Lib.hid hS
  have HB0 := Lib.hid hb
  clear hS hb e1 e2
  go_enter Tryz.func78, Tryz.ntmps78
  go_wp2_with fail
  go_loopw [4] (fun i wr => ∃ k : Nat, k ≤ n ∧ i = .int .i64 k ∧ ∃ Af cf Ab cb, Hs wr w.heap.size [bx_ (w.heap.size) #[.int .i64 0, .int .i64 0, .slice none 0 0, .slice none 0 0, .slice none 0 0, .slice none 0 0, .slice none 0 0] 75, rc_ 126 2 (.slice (some ⟨w.heap.size + 1, 0, none⟩) 4 4) 4 (carC (List.replicate 4 (false, 0))), bx_ (w.heap.size + 1 + 1) #[.int .i64 n, .int .i64 0, .slice Af k cf, .slice Ab k cb, .slice (some ⟨w.heap.size + 1, 0, none⟩) 4 4, .slice none 0 0, .slice none 0 0] 75, rws_ (.slice Af k cf) (List.replicate k []), rws_ (.slice Ab k cb) (List.replicate k [])] ∧ Below w.heap.size w wr) (fun i _ => n - (intOf i).toNat)
  case atStart => exact ⟨0, Nat.zero_le _, rfl, none, 0, none, 0, HS0.out, HB0.out⟩
  case round =>
    obtain ⟨k, hk, rfl, Af, cf, Ab, cb, hS, hb⟩ := hrel
    clear HS0 HB0
    by_cases hlt : k < n
    · obtain ⟨kz, fz, lz, -⟩ := Hs.bx [bx_ (w.heap.size) #[.int .i64 0, .int .i64 0, .slice none 0 0, .slice none 0 0, .slice none 0 0, .slice none 0 0, .slice none 0 0] 75, rc_ 126 2 (.slice (some ⟨w.heap.size + 1, 0, none⟩) 4 4) 4 (carC (List.replicate 4 (false, 0)))] [rws_ (.slice Af k cf) (List.replicate k []), rws_ (.slice Ab k cb) (List.replicate k [])] hS
      have p2a : wr.cell? ⟨w.heap.size + 1 + 1, 2, none⟩ = some (.slice Af k cf) := kz 2
      have t2a : wr.frozen? ⟨w.heap.size + 1 + 1, 2, none⟩ = false := fz 2
      clear kz fz
      have HS := Lib.hid (hS.join (al1 wr (.cells #[] 2)) (hs_emptyI wr wr.heap.size rfl))
      have HB := Lib.hid (hb.trans ((al1 wr (.cells #[] 2)).mono hb.size))
      clear hS hb
      go_wp2_with (first | (at_builtin; (refine wpList_append_rowH rfl _ _ rfl (wr.alloc (.cells #[] 2)) w.heap.size [bx_ (w.heap.size) #[.int .i64 0, .int .i64 0, .slice none 0 0, .slice none 0 0, .slice none 0 0, .slice none 0 0, .slice none 0 0] 75, rc_ 126 2 (.slice (some ⟨w.heap.size + 1, 0, none⟩) 4 4) 4 (carC (List.replicate 4 (false, 0))), bx_ (w.heap.size + 1 + 1) #[.int .i64 n, .int .i64 0, .slice Af k cf, .slice Ab k cb, .slice (some ⟨w.heap.size + 1, 0, none⟩) 4 4, .slice none 0 0, .slice none 0 0] 75] [rws_ (.slice Ab k cb) (List.replicate k [])] (.slice Af k cf) (.slice (some ⟨wr.heap.size, 0, none⟩) 0 0) (List.replicate k []) [] rfl rfl (by simp) rfl HS.out (by simp; omega) ?_); (intro A1 c1 w1 hS1 hb1); (rw [show List.replicate k ([] : List Int) ++ [[]] = List.replicate (k + 1) [] from (List.replicate_succ').symm, List.length_replicate] at hS1 ⊢); (have hb1 := HB.out.trans hb1); (clear HS HB p2a t2a); (obtain ⟨kz, fz, lz, -⟩ := Hs.bx [bx_ (w.heap.size) #[.int .i64 0, .int .i64 0, .slice none 0 0, .slice none 0 0, .slice none 0 0, .slice none 0 0, .slice none 0 0] 75, rc_ 126 2 (.slice (some ⟨w.heap.size + 1, 0, none⟩) 4 4) 4 (carC (List.replicate 4 (false, 0)))] [rws_ (.slice A1 (k + 1) c1) (List.replicate (k + 1) []), rws_ (.slice Ab k cb) (List.replicate k [])] hS1); (have p2b : w1.cell? ⟨w.heap.size + 1 + 1, 2, none⟩ = some (.slice Af k cf) := kz 2); (have p3b : w1.cell? ⟨w.heap.size + 1 + 1, 3, none⟩ = some (.slice Ab k cb) := kz 3); (have t2b : w1.frozen? ⟨w.heap.size + 1 + 1, 2, none⟩ = false := fz 2); (have t3b : w1.frozen? ⟨w.heap.size + 1 + 1, 3, none⟩ = false := fz 3); (clear kz fz); (have hS2 : Hs (w1.setCell ⟨w.heap.size + 1 + 1, 2, none⟩ (.slice A1 (k + 1) c1)) w.heap.size [bx_ (w.heap.size) #[.int .i64 0, .int .i64 0, .slice none 0 0, .slice none 0 0, .slice none 0 0, .slice none 0 0, .slice none 0 0] 75, rc_ 126 2 (.slice (some ⟨w.heap.size + 1, 0, none⟩) 4 4) 4 (carC (List.replicate 4 (false, 0))), bx_ (w.heap.size + 1 + 1) #[.int .i64 n, .int .i64 0, .slice A1 (k + 1) c1, .slice Ab k cb, .slice (some ⟨w.heap.size + 1, 0, none⟩) 4 4, .slice none 0 0, .slice none 0 0] 75, rws_ (.slice A1 (k + 1) c1) (List.replicate (k + 1) []), rws_ (.slice Ab k cb) (List.replicate k [])] := Hs.setBx [bx_ (w.heap.size) #[.int .i64 0, .int .i64 0, .slice none 0 0, .slice none 0 0, .slice none 0 0, .slice none 0 0, .slice none 0 0] 75, rc_ 126 2 (.slice (some ⟨w.heap.size + 1, 0, none⟩) 4 4) 4 (carC (List.replicate 4 (false, 0)))] [rws_ (.slice A1 (k + 1) c1) (List.replicate (k + 1) []), rws_ (.slice Ab k cb) (List.replicate k [])] hS1 2 (.slice A1 (k + 1) c1)); (have hb2 : Below w.heap.size w (w1.setCell ⟨w.heap.size + 1 + 1, 2, none⟩ (.slice A1 (k + 1) c1)) := setB (by simp only; omega) hb1); (have HT := Lib.hid (hS2.join (al1 (w1.setCell ⟨w.heap.size + 1 + 1, 2, none⟩ (.slice A1 (k + 1) c1)) (.cells #[] 2)) (hs_emptyI (w1.setCell ⟨w.heap.size + 1 + 1, 2, none⟩ (.slice A1 (k + 1) c1)) w1.heap.size (by simp [World.setCell])))); (have HBT := Lib.hid (hb2.trans ((al1 (w1.setCell ⟨w.heap.size + 1 + 1, 2, none⟩ (.slice A1 (k + 1) c1)) (.cells #[] 2)).mono hb2.size))); (clear hS1 hb1 hS2 hb2)) | (at_builtin; (refine wpList_append_rowH rfl _ _ rfl ((w1.setCell ⟨w.heap.size + 1 + 1, 2, none⟩ (.slice A1 (k + 1) c1)).alloc (.cells #[] 2)) w.heap.size [bx_ (w.heap.size) #[.int .i64 0, .int .i64 0, .slice none 0 0, .slice none 0 0, .slice none 0 0, .slice none 0 0, .slice none 0 0] 75, rc_ 126 2 (.slice (some ⟨w.heap.size + 1, 0, none⟩) 4 4) 4 (carC (List.replicate 4 (false, 0))), bx_ (w.heap.size + 1 + 1) #[.int .i64 n, .int .i64 0, .slice A1 (k + 1) c1, .slice Ab k cb, .slice (some ⟨w.heap.size + 1, 0, none⟩) 4 4, .slice none 0 0, .slice none 0 0] 75, rws_ (.slice A1 (k + 1) c1) (List.replicate (k + 1) [])] [] (.slice Ab k cb) (.slice (some ⟨w1.heap.size, 0, none⟩) 0 0) (List.replicate k []) [] rfl rfl (by simp) rfl HT.out (by simp; omega) ?_); (intro A2 c2 w2 hS3 hb3); (rw [show List.replicate k ([] : List Int) ++ [[]] = List.replicate (k + 1) [] from (List.replicate_succ').symm, List.length_replicate] at hS3 ⊢); (have hb3 := HBT.out.trans hb3); (clear HT HBT p2b t2b p3b t3b); (obtain ⟨kz, fz, lz, -⟩ := Hs.bx [bx_ (w.heap.size) #[.int .i64 0, .int .i64 0, .slice none 0 0, .slice none 0 0, .slice none 0 0, .slice none 0 0, .slice none 0 0] 75, rc_ 126 2 (.slice (some ⟨w.heap.size + 1, 0, none⟩) 4 4) 4 (carC (List.replicate 4 (false, 0)))] [rws_ (.slice A1 (k + 1) c1) (List.replicate (k + 1) []), rws_ (.slice A2 (k + 1) c2) (List.replicate (k + 1) [])] hS3); (have p3c : w2.cell? ⟨w.heap.size + 1 + 1, 3, none⟩ = some (.slice Ab k cb) := kz 3); (have t3c : w2.frozen? ⟨w.heap.size + 1 + 1, 3, none⟩ = false := fz 3); (clear kz fz); (have hS4 : Hs (w2.setCell ⟨w.heap.size + 1 + 1, 3, none⟩ (.slice A2 (k + 1) c2)) w.heap.size [bx_ (w.heap.size) #[.int .i64 0, .int .i64 0, .slice none 0 0, .slice none 0 0, .slice none 0 0, .slice none 0 0, .slice none 0 0] 75, rc_ 126 2 (.slice (some ⟨w.heap.size + 1, 0, none⟩) 4 4) 4 (carC (List.replicate 4 (false, 0))), bx_ (w.heap.size + 1 + 1) #[.int .i64 n, .int .i64 0, .slice A1 (k + 1) c1, .slice A2 (k + 1) c2, .slice (some ⟨w.heap.size + 1, 0, none⟩) 4 4, .slice none 0 0, .slice none 0 0] 75, rws_ (.slice A1 (k + 1) c1) (List.replicate (k + 1) []), rws_ (.slice A2 (k + 1) c2) (List.replicate (k + 1) [])] := Hs.setBx [bx_ (w.heap.size) #[.int .i64 0, .int .i64 0, .slice none 0 0, .slice none 0 0, .slice none 0 0, .slice none 0 0, .slice none 0 0] 75, rc_ 126 2 (.slice (some ⟨w.heap.size + 1, 0, none⟩) 4 4) 4 (carC (List.replicate 4 (false, 0)))] [rws_ (.slice A1 (k + 1) c1) (List.replicate (k + 1) []), rws_ (.slice A2 (k + 1) c2) (List.replicate (k + 1) [])] hS3 3 (.slice A2 (k + 1) c2)); (have hb4 : Below w.heap.size w (w2.setCell ⟨w.heap.size + 1 + 1, 3, none⟩ (.slice A2 (k + 1) c2)) := setB (by simp only; omega) hb3); (have HS := Lib.hid hS4); (have HB := Lib.hid hb4); (clear hS3 hb3 hS4 hb4)))
      go_roundw
      case rel => exact ⟨k + 1, by omega, by go_num, A1, c1, A2, c2, HS.out, HB.out⟩
      case measure => simp [intOf]; omega
    · obtain rfl : k = n := by omega
      obtain ⟨ky, fy, ly, -⟩ := Hs.bx [] [rc_ 126 2 (.slice (some ⟨w.heap.size + 1, 0, none⟩) 4 4) 4 (carC (List.replicate 4 (false, 0))), bx_ (w.heap.size + 1 + 1) #[.int .i64 k, .int .i64 0, .slice Af k cf, .slice Ab k cb, .slice (some ⟨w.heap.size + 1, 0, none⟩) 4 4, .slice none 0 0, .slice none 0 0] 75, rws_ (.slice Af k cf) (List.replicate k []), rws_ (.slice Ab k cb) (List.replicate k [])] hS
      obtain ⟨kz, -, -, -⟩ := Hs.bx [bx_ (w.heap.size) #[.int .i64 0, .int .i64 0, .slice none 0 0, .slice none 0 0, .slice none 0 0, .slice none 0 0, .slice none 0 0] 75, rc_ 126 2 (.slice (some ⟨w.heap.size + 1, 0, none⟩) 4 4) 4 (carC (List.replicate 4 (false, 0)))] [rws_ (.slice Af k cf) (List.replicate k []), rws_ (.slice Ab k cb) (List.replicate k [])] hS
      have u0 : wr.cell? ⟨w.heap.size + 1 + 1, 0, none⟩ = some (.int .i64 k) := kz 0
      have v0 : wr.cell? ⟨w.heap.size, 0, none⟩ = some (.int .i64 0) := ky 0
      have t0 : wr.frozen? ⟨w.heap.size, 0, none⟩ = false := fy 0
      have u1 : wr.cell? ⟨w.heap.size + 1 + 1, 1, none⟩ = some (.int .i64 0) := kz 1
      have v1 : wr.cell? ⟨w.heap.size, 1, none⟩ = some (.int .i64 0) := ky 1
      have t1 : wr.frozen? ⟨w.heap.size, 1, none⟩ = false := fy 1
      have u2 : wr.cell? ⟨w.heap.size + 1 + 1, 2, none⟩ = some (.slice Af k cf) := kz 2
      have v2 : wr.cell? ⟨w.heap.size, 2, none⟩ = some (.slice none 0 0) := ky 2
      have t2 : wr.frozen? ⟨w.heap.size, 2, none⟩ = false := fy 2
      have u3 : wr.cell? ⟨w.heap.size + 1 + 1, 3, none⟩ = some (.slice Ab k cb) := kz 3
      have v3 : wr.cell? ⟨w.heap.size, 3, none⟩ = some (.slice none 0 0) := ky 3
      have t3 : wr.frozen? ⟨w.heap.size, 3, none⟩ = false := fy 3
      have u4 : wr.cell? ⟨w.heap.size + 1 + 1, 4, none⟩ = some (.slice (some ⟨w.heap.size + 1, 0, none⟩) 4 4) := kz 4
      have v4 : wr.cell? ⟨w.heap.size, 4, none⟩ = some (.slice none 0 0) := ky 4
      have t4 : wr.frozen? ⟨w.heap.size, 4, none⟩ = false := fy 4
      have u5 : wr.cell? ⟨w.heap.size + 1 + 1, 5, none⟩ = some (.slice none 0 0) := kz 5
      have v5 : wr.cell? ⟨w.heap.size, 5, none⟩ = some (.slice none 0 0) := ky 5
      have t5 : wr.frozen? ⟨w.heap.size, 5, none⟩ = false := fy 5
      have u6 : wr.cell? ⟨w.heap.size + 1 + 1, 6, none⟩ = some (.slice none 0 0) := kz 6
      have v6 : wr.cell? ⟨w.heap.size, 6, none⟩ = some (.slice none 0 0) := ky 6
      have t6 : wr.frozen? ⟨w.heap.size, 6, none⟩ = false := fy 6
      clear ky fy kz
      have hS : Hs (wr.setCell ⟨w.heap.size, 0, none⟩ (.int .i64 k)) w.heap.size [bx_ (w.heap.size) #[.int .i64 k, .int .i64 0, .slice none 0 0, .slice none 0 0, .slice none 0 0, .slice none 0 0, .slice none 0 0] 75, rc_ 126 2 (.slice (some ⟨w.heap.size + 1, 0, none⟩) 4 4) 4 (carC (List.replicate 4 (false, 0))), bx_ (w.heap.size + 1 + 1) #[.int .i64 k, .int .i64 0, .slice Af k cf, .slice Ab k cb, .slice (some ⟨w.heap.size + 1, 0, none⟩) 4 4, .slice none 0 0, .slice none 0 0] 75, rws_ (.slice Af k cf) (List.replicate k []), rws_ (.slice Ab k cb) (List.replicate k [])] := Hs.setBx [] [rc_ 126 2 (.slice (some ⟨w.heap.size + 1, 0, none⟩) 4 4) 4 (carC (List.replicate 4 (false, 0))), bx_ (w.heap.size + 1 + 1) #[.int .i64 k, .int .i64 0, .slice Af k cf, .slice Ab k cb, .slice (some ⟨w.heap.size + 1, 0, none⟩) 4 4, .slice none 0 0, .slice none 0 0] 75, rws_ (.slice Af k cf) (List.replicate k []), rws_ (.slice Ab k cb) (List.replicate k [])] hS 0 (.int .i64 k)
      have hb : Below w.heap.size w (wr.setCell ⟨w.heap.size, 0, none⟩ (.int .i64 k)) := setB (by simp only; omega) hb
      have hS : Hs ((wr.setCell ⟨w.heap.size, 0, none⟩ (.int .i64 k)).setCell ⟨w.heap.size, 1, none⟩ (.int .i64 0)) w.heap.size [bx_ (w.heap.size) #[.int .i64 k, .int .i64 0, .slice none 0 0, .slice none 0 0, .slice none 0 0, .slice none 0 0, .slice none 0 0] 75, rc_ 126 2 (.slice (some ⟨w.heap.size + 1, 0, none⟩) 4 4) 4 (carC (List.replicate 4 (false, 0))), bx_ (w.heap.size + 1 + 1) #[.int .i64 k, .int .i64 0, .slice Af k cf, .slice Ab k cb, .slice (some ⟨w.heap.size + 1, 0, none⟩) 4 4, .slice none 0 0, .slice none 0 0] 75, rws_ (.slice Af k cf) (List.replicate k []), rws_ (.slice Ab k cb) (List.replicate k [])] := Hs.setBx [] [rc_ 126 2 (.slice (some ⟨w.heap.size + 1, 0, none⟩) 4 4) 4 (carC (List.replicate 4 (false, 0))), bx_ (w.heap.size + 1 + 1) #[.int .i64 k, .int .i64 0, .slice Af k cf, .slice Ab k cb, .slice (some ⟨w.heap.size + 1, 0, none⟩) 4 4, .slice none 0 0, .slice none 0 0] 75, rws_ (.slice Af k cf) (List.replicate k []), rws_ (.slice Ab k cb) (List.replicate k [])] hS 1 (.int .i64 0)
      have hb : Below w.heap.size w ((wr.setCell ⟨w.heap.size, 0, none⟩ (.int .i64 k)).setCell ⟨w.heap.size, 1, none⟩ (.int .i64 0)) := setB (by simp only; omega) hb
      have hS : Hs (((wr.setCell ⟨w.heap.size, 0, none⟩ (.int .i64 k)).setCell ⟨w.heap.size, 1, none⟩ (.int .i64 0)).setCell ⟨w.heap.size, 2, none⟩ (.slice Af k cf)) w.heap.size [bx_ (w.heap.size) #[.int .i64 k, .int .i64 0, .slice Af k cf, .slice none 0 0, .slice none 0 0, .slice none 0 0, .slice none 0 0] 75, rc_ 126 2 (.slice (some ⟨w.heap.size + 1, 0, none⟩) 4 4) 4 (carC (List.replicate 4 (false, 0))), bx_ (w.heap.size + 1 + 1) #[.int .i64 k, .int .i64 0, .slice Af k cf, .slice Ab k cb, .slice (some ⟨w.heap.size + 1, 0, none⟩) 4 4, .slice none 0 0, .slice none 0 0] 75, rws_ (.slice Af k cf) (List.replicate k []), rws_ (.slice Ab k cb) (List.replicate k [])] := Hs.setBx [] [rc_ 126 2 (.slice (some ⟨w.heap.size + 1, 0, none⟩) 4 4) 4 (carC (List.replicate 4 (false, 0))), bx_ (w.heap.size + 1 + 1) #[.int .i64 k, .int .i64 0, .slice Af k cf, .slice Ab k cb, .slice (some ⟨w.heap.size + 1, 0, none⟩) 4 4, .slice none 0 0, .slice none 0 0] 75, rws_ (.slice Af k cf) (List.replicate k []), rws_ (.slice Ab k cb) (List.replicate k [])] hS 2 (.slice Af k cf)
      have hb : Below w.heap.size w (((wr.setCell ⟨w.heap.size, 0, none⟩ (.int .i64 k)).setCell ⟨w.heap.size, 1, none⟩ (.int .i64 0)).setCell ⟨w.heap.size, 2, none⟩ (.slice Af k cf)) := setB (by simp only; omega) hb
      have hS : Hs ((((wr.setCell ⟨w.heap.size, 0, none⟩ (.int .i64 k)).setCell ⟨w.heap.size, 1, none⟩ (.int .i64 0)).setCell ⟨w.heap.size, 2, none⟩ (.slice Af k cf)).setCell ⟨w.heap.size, 3, none⟩ (.slice Ab k cb)) w.heap.size [bx_ (w.heap.size) #[.int .i64 k, .int .i64 0, .slice Af k cf, .slice Ab k cb, .slice none 0 0, .slice none 0 0, .slice none 0 0] 75, rc_ 126 2 (.slice (some ⟨w.heap.size + 1, 0, none⟩) 4 4) 4 (carC (List.replicate 4 (false, 0))), bx_ (w.heap.size + 1 + 1) #[.int .i64 k, .int .i64 0, .slice Af k cf, .slice Ab k cb, .slice (some ⟨w.heap.size + 1, 0, none⟩) 4 4, .slice none 0 0, .slice none 0 0] 75, rws_ (.slice Af k cf) (List.replicate k []), rws_ (.slice Ab k cb) (List.replicate k [])] := Hs.setBx [] [rc_ 126 2 (.slice (some ⟨w.heap.size + 1, 0, none⟩) 4 4) 4 (carC (List.replicate 4 (false, 0))), bx_ (w.heap.size + 1 + 1) #[.int .i64 k, .int .i64 0, .slice Af k cf, .slice Ab k cb, .slice (some ⟨w.heap.size + 1, 0, none⟩) 4 4, .slice none 0 0, .slice none 0 0] 75, rws_ (.slice Af k cf) (List.replicate k []), rws_ (.slice Ab k cb) (List.replicate k [])] hS 3 (.slice Ab k cb)
      have hb : Below w.heap.size w ((((wr.setCell ⟨w.heap.size, 0, none⟩ (.int .i64 k)).setCell ⟨w.heap.size, 1, none⟩ (.int .i64 0)).setCell ⟨w.heap.size, 2, none⟩ (.slice Af k cf)).setCell ⟨w.heap.size, 3, none⟩ (.slice Ab k cb)) := setB (by simp only; omega) hb
      have hS : Hs (((((wr.setCell ⟨w.heap.size, 0, none⟩ (.int .i64 k)).setCell ⟨w.heap.size, 1, none⟩ (.int .i64 0)).setCell ⟨w.heap.size, 2, none⟩ (.slice Af k cf)).setCell ⟨w.heap.size, 3, none⟩ (.slice Ab k cb)).setCell ⟨w.heap.size, 4, none⟩ (.slice (some ⟨w.heap.size + 1, 0, none⟩) 4 4)) w.heap.size [bx_ (w.heap.size) #[.int .i64 k, .int .i64 0, .slice Af k cf, .slice Ab k cb, .slice (some ⟨w.heap.size + 1, 0, none⟩) 4 4, .slice none 0 0, .slice none 0 0] 75, rc_ 126 2 (.slice (some ⟨w.heap.size + 1, 0, none⟩) 4 4) 4 (carC (List.replicate 4 (false, 0))), bx_ (w.heap.size + 1 + 1) #[.int .i64 k, .int .i64 0, .slice Af k cf, .slice Ab k cb, .slice (some ⟨w.heap.size + 1, 0, none⟩) 4 4, .slice none 0 0, .slice none 0 0] 75, rws_ (.slice Af k cf) (List.replicate k []), rws_ (.slice Ab k cb) (List.replicate k [])] := Hs.setBx [] [rc_ 126 2 (.slice (some ⟨w.heap.size + 1, 0, none⟩) 4 4) 4 (carC (List.replicate 4 (false, 0))), bx_ (w.heap.size + 1 + 1) #[.int .i64 k, .int .i64 0, .slice Af k cf, .slice Ab k cb, .slice (some ⟨w.heap.size + 1, 0, none⟩) 4 4, .slice none 0 0, .slice none 0 0] 75, rws_ (.slice Af k cf) (List.replicate k []), rws_ (.slice Ab k cb) (List.replicate k [])] hS 4 (.slice (some ⟨w.heap.size + 1, 0, none⟩) 4 4)
      have hb : Below w.heap.size w (((((wr.setCell ⟨w.heap.size, 0, none⟩ (.int .i64 k)).setCell ⟨w.heap.size, 1, none⟩ (.int .i64 0)).setCell ⟨w.heap.size, 2, none⟩ (.slice Af k cf)).setCell ⟨w.heap.size, 3, none⟩ (.slice Ab k cb)).setCell ⟨w.heap.size, 4, none⟩ (.slice (some ⟨w.heap.size + 1, 0, none⟩) 4 4)) := setB (by simp only; omega) hb
      have hS : Hs ((((((wr.setCell ⟨w.heap.size, 0, none⟩ (.int .i64 k)).setCell ⟨w.heap.size, 1, none⟩ (.int .i64 0)).setCell ⟨w.heap.size, 2, none⟩ (.slice Af k cf)).setCell ⟨w.heap.size, 3, none⟩ (.slice Ab k cb)).setCell ⟨w.heap.size, 4, none⟩ (.slice (some ⟨w.heap.size + 1, 0, none⟩) 4 4)).setCell ⟨w.heap.size, 5, none⟩ (.slice none 0 0)) w.heap.size [bx_ (w.heap.size) #[.int .i64 k, .int .i64 0, .slice Af k cf, .slice Ab k cb, .slice (some ⟨w.heap.size + 1, 0, none⟩) 4 4, .slice none 0 0, .slice none 0 0] 75, rc_ 126 2 (.slice (some ⟨w.heap.size + 1, 0, none⟩) 4 4) 4 (carC (List.replicate 4 (false, 0))), bx_ (w.heap.size + 1 + 1) #[.int .i64 k, .int .i64 0, .slice Af k cf, .slice Ab k cb, .slice (some ⟨w.heap.size + 1, 0, none⟩) 4 4, .slice none 0 0, .slice none 0 0] 75, rws_ (.slice Af k cf) (List.replicate k []), rws_ (.slice Ab k cb) (List.replicate k [])] := Hs.setBx [] [rc_ 126 2 (.slice (some ⟨w.heap.size + 1, 0, none⟩) 4 4) 4 (carC (List.replicate 4 (false, 0))), bx_ (w.heap.size + 1 + 1) #[.int .i64 k, .int .i64 0, .slice Af k cf, .slice Ab k cb, .slice (some ⟨w.heap.size + 1, 0, none⟩) 4 4, .slice none 0 0, .slice none 0 0] 75, rws_ (.slice Af k cf) (List.replicate k []), rws_ (.slice Ab k cb) (List.replicate k [])] hS 5 (.slice none 0 0)
      have hb : Below w.heap.size w ((((((wr.setCell ⟨w.heap.size, 0, none⟩ (.int .i64 k)).setCell ⟨w.heap.size, 1, none⟩ (.int .i64 0)).setCell ⟨w.heap.size, 2, none⟩ (.slice Af k cf)).setCell ⟨w.heap.size, 3, none⟩ (.slice Ab k cb)).setCell ⟨w.heap.size, 4, none⟩ (.slice (some ⟨w.heap.size + 1, 0, none⟩) 4 4)).setCell ⟨w.heap.size, 5, none⟩ (.slice none 0 0)) := setB (by simp only; omega) hb
      have hS : Hs (((((((wr.setCell ⟨w.heap.size, 0, none⟩ (.int .i64 k)).setCell ⟨w.heap.size, 1, none⟩ (.int .i64 0)).setCell ⟨w.heap.size, 2, none⟩ (.slice Af k cf)).setCell ⟨w.heap.size, 3, none⟩ (.slice Ab k cb)).setCell ⟨w.heap.size, 4, none⟩ (.slice (some ⟨w.heap.size + 1, 0, none⟩) 4 4)).setCell ⟨w.heap.size, 5, none⟩ (.slice none 0 0)).setCell ⟨w.heap.size, 6, none⟩ (.slice none 0 0)) w.heap.size [bx_ (w.heap.size) #[.int .i64 k, .int .i64 0, .slice Af k cf, .slice Ab k cb, .slice (some ⟨w.heap.size + 1, 0, none⟩) 4 4, .slice none 0 0, .slice none 0 0] 75, rc_ 126 2 (.slice (some ⟨w.heap.size + 1, 0, none⟩) 4 4) 4 (carC (List.replicate 4 (false, 0))), bx_ (w.heap.size + 1 + 1) #[.int .i64 k, .int .i64 0, .slice Af k cf, .slice Ab k cb, .slice (some ⟨w.heap.size + 1, 0, none⟩) 4 4, .slice none 0 0, .slice none 0 0] 75, rws_ (.slice Af k cf) (List.replicate k []), rws_ (.slice Ab k cb) (List.replicate k [])] := Hs.setBx [] [rc_ 126 2 (.slice (some ⟨w.heap.size + 1, 0, none⟩) 4 4) 4 (carC (List.replicate 4 (false, 0))), bx_ (w.heap.size + 1 + 1) #[.int .i64 k, .int .i64 0, .slice Af k cf, .slice Ab k cb, .slice (some ⟨w.heap.size + 1, 0, none⟩) 4 4, .slice none 0 0, .slice none 0 0] 75, rws_ (.slice Af k cf) (List.replicate k []), rws_ (.slice Ab k cb) (List.replicate k [])] hS 6 (.slice none 0 0)
      have hb : Below w.heap.size w (((((((wr.setCell ⟨w.heap.size, 0, none⟩ (.int .i64 k)).setCell ⟨w.heap.size, 1, none⟩ (.int .i64 0)).setCell ⟨w.heap.size, 2, none⟩ (.slice Af k cf)).setCell ⟨w.heap.size, 3, none⟩ (.slice Ab k cb)).setCell ⟨w.heap.size, 4, none⟩ (.slice (some ⟨w.heap.size + 1, 0, none⟩) 4 4)).setCell ⟨w.heap.size, 5, none⟩ (.slice none 0 0)).setCell ⟨w.heap.size, 6, none⟩ (.slice none 0 0)) := setB (by simp only; omega) hb
      obtain ⟨ky, -, -, -⟩ := Hs.bx [] [rc_ 126 2 (.slice (some ⟨w.heap.size + 1, 0, none⟩) 4 4) 4 (carC (List.replicate 4 (false, 0))), bx_ (w.heap.size + 1 + 1) #[.int .i64 k, .int .i64 0, .slice Af k cf, .slice Ab k cb, .slice (some ⟨w.heap.size + 1, 0, none⟩) 4 4, .slice none 0 0, .slice none 0 0] 75, rws_ (.slice Af k cf) (List.replicate k []), rws_ (.slice Ab k cb) (List.replicate k [])] hS
      have n0 : (((((((wr.setCell ⟨w.heap.size, 0, none⟩ (.int .i64 k)).setCell ⟨w.heap.size, 1, none⟩ (.int .i64 0)).setCell ⟨w.heap.size, 2, none⟩ (.slice Af k cf)).setCell ⟨w.heap.size, 3, none⟩ (.slice Ab k cb)).setCell ⟨w.heap.size, 4, none⟩ (.slice (some ⟨w.heap.size + 1, 0, none⟩) 4 4)).setCell ⟨w.heap.size, 5, none⟩ (.slice none 0 0)).setCell ⟨w.heap.size, 6, none⟩ (.slice none 0 0)).cell? ⟨w.heap.size, 0, none⟩ = some (.int .i64 k) := ky 0
      have n1 : (((((((wr.setCell ⟨w.heap.size, 0, none⟩ (.int .i64 k)).setCell ⟨w.heap.size, 1, none⟩ (.int .i64 0)).setCell ⟨w.heap.size, 2, none⟩ (.slice Af k cf)).setCell ⟨w.heap.size, 3, none⟩ (.slice Ab k cb)).setCell ⟨w.heap.size, 4, none⟩ (.slice (some ⟨w.heap.size + 1, 0, none⟩) 4 4)).setCell ⟨w.heap.size, 5, none⟩ (.slice none 0 0)).setCell ⟨w.heap.size, 6, none⟩ (.slice none 0 0)).cell? ⟨w.heap.size, 1, none⟩ = some (.int .i64 0) := ky 1
      have n2 : (((((((wr.setCell ⟨w.heap.size, 0, none⟩ (.int .i64 k)).setCell ⟨w.heap.size, 1, none⟩ (.int .i64 0)).setCell ⟨w.heap.size, 2, none⟩ (.slice Af k cf)).setCell ⟨w.heap.size, 3, none⟩ (.slice Ab k cb)).setCell ⟨w.heap.size, 4, none⟩ (.slice (some ⟨w.heap.size + 1, 0, none⟩) 4 4)).setCell ⟨w.heap.size, 5, none⟩ (.slice none 0 0)).setCell ⟨w.heap.size, 6, none⟩ (.slice none 0 0)).cell? ⟨w.heap.size, 2, none⟩ = some (.slice Af k cf) := ky 2
      have n3 : (((((((wr.setCell ⟨w.heap.size, 0, none⟩ (.int .i64 k)).setCell ⟨w.heap.size, 1, none⟩ (.int .i64 0)).setCell ⟨w.heap.size, 2, none⟩ (.slice Af k cf)).setCell ⟨w.heap.size, 3, none⟩ (.slice Ab k cb)).setCell ⟨w.heap.size, 4, none⟩ (.slice (some ⟨w.heap.size + 1, 0, none⟩) 4 4)).setCell ⟨w.heap.size, 5, none⟩ (.slice none 0 0)).setCell ⟨w.heap.size, 6, none⟩ (.slice none 0 0)).cell? ⟨w.heap.size, 3, none⟩ = some (.slice Ab k cb) := ky 3
      have n4 : (((((((wr.setCell ⟨w.heap.size, 0, none⟩ (.int .i64 k)).setCell ⟨w.heap.size, 1, none⟩ (.int .i64 0)).setCell ⟨w.heap.size, 2, none⟩ (.slice Af k cf)).setCell ⟨w.heap.size, 3, none⟩ (.slice Ab k cb)).setCell ⟨w.heap.size, 4, none⟩ (.slice (some ⟨w.heap.size + 1, 0, none⟩) 4 4)).setCell ⟨w.heap.size, 5, none⟩ (.slice none 0 0)).setCell ⟨w.heap.size, 6, none⟩ (.slice none 0 0)).cell? ⟨w.heap.size, 4, none⟩ = some (.slice (some ⟨w.heap.size + 1, 0, none⟩) 4 4) := ky 4
      have n5 : (((((((wr.setCell ⟨w.heap.size, 0, none⟩ (.int .i64 k)).setCell ⟨w.heap.size, 1, none⟩ (.int .i64 0)).setCell ⟨w.heap.size, 2, none⟩ (.slice Af k cf)).setCell ⟨w.heap.size, 3, none⟩ (.slice Ab k cb)).setCell ⟨w.heap.size, 4, none⟩ (.slice (some ⟨w.heap.size + 1, 0, none⟩) 4 4)).setCell ⟨w.heap.size, 5, none⟩ (.slice none 0 0)).setCell ⟨w.heap.size, 6, none⟩ (.slice none 0 0)).cell? ⟨w.heap.size, 5, none⟩ = some (.slice none 0 0) := ky 5
      have n6 : (((((((wr.setCell ⟨w.heap.size, 0, none⟩ (.int .i64 k)).setCell ⟨w.heap.size, 1, none⟩ (.int .i64 0)).setCell ⟨w.heap.size, 2, none⟩ (.slice Af k cf)).setCell ⟨w.heap.size, 3, none⟩ (.slice Ab k cb)).setCell ⟨w.heap.size, 4, none⟩ (.slice (some ⟨w.heap.size + 1, 0, none⟩) 4 4)).setCell ⟨w.heap.size, 5, none⟩ (.slice none 0 0)).setCell ⟨w.heap.size, 6, none⟩ (.slice none 0 0)).cell? ⟨w.heap.size, 6, none⟩ = some (.slice none 0 0) := ky 6
      have HS := Lib.hid hS
      have HB := Lib.hid hb
      have HN := Lib.hid (And.intro n0 (And.intro n1 (And.intro n2 (And.intro n3 (And.intro n4 (And.intro n5 n6))))))
      clear hS hb ky n0 n1 n2 n3 n4 n5 n6
      go_wp2_with fail
      obtain ⟨n0, n1, n2, n3, n4, n5, n6⟩ := HN.out
      refine bodyPost_ret (v := .agg #[.int .i64 k, .int .i64 0, .slice Af k cf, .slice Ab k cb, .slice (some ⟨w.heap.size + 1, 0, none⟩) 4 4, .slice none 0 0, .slice none 0 0]) (by simp [results, Tryz.results78, go_sem, n0, n1, n2, n3, n4, n5, n6]) rfl ?_
      refine ⟨_, _, _, _, _, rfl, ?_, HB.out⟩
      have q1 := Hs.drop [] _ _ HS.out
      have q2 := Hs.drop [_] _ _ q1
      have q3 := Hs.toEnd [] _ _ q2
      have q4 := (q3.join (Below.refl _ _) hs_nilF).join (Below.refl _ _) hs_nilI
      exact Hs.mac (m := newM (k : Int)) (by simpa [newM] using q4)
end Go.Proofs.YtgmppfhokfifgaaGreatDoor
/-
  Contracts: the program's newMachine.
-/
namespace Go.Proofs.YtgmppfhokfifgaaGreatDoor
set_option maxRecDepth 10000
open Go.RowKit

theorem run_mk {P : Program} (t e : TypeId) (i : TypeInfo) (z : Value) (ht : P.underlying t = some (.slice e)) (hi : P.info? e = some i) (hz : i.zero = some z) (n : Nat) (hb : i.bytes ≤ 100) (hn : n ≤ 1000000) (w : World) :
    (Instr.makeSlice t (.int .i64 (n : Int)) (.int .i64 (n : Int))).run P w = .ok (.slice (some ⟨w.heap.size, 0, none⟩) n n) (w.alloc (.cells (madeCells z.cells (n * i.size)) e)) := by
  have h : i.bytes * n ≤ 100 * 1000000 := Nat.mul_le_mul hb hn
  have h2 : (i.bytes : Int) * (n : Int) ≤ 281474976710656 := by
    have h3 : ((i.bytes * n : Nat) : Int) ≤ 281474976710656 := by omega
    rwa [Int.natCast_mul] at h3
  have hr := run_make (P := P) w t e i z ht hi hz .i64 .i64 n n (by omega) (by omega) h2 (by omega)
  simp only [Int.toNat_natCast] at hr
  exact hr
theorem Hs.one' {w : World} {lo : Nat} {t : Itm} {S : Nat → Prop} (hlo : lo ≤ w.heap.size) (h : t.p w S) (hs : ∀ k, S k → lo ≤ k ∧ k < w.heap.size) : Hs w lo [t] := by
  classical
  refine ⟨hlo, fun b => if S b then 0 else 1, fun k u e => ?_⟩
  obtain rfl : k = 0 := by
    have := (List.getElem?_eq_some_iff.1 e).1
    simp at this; exact this
  simp at e
  subst e
  have hi : ∀ b, S b ↔ (if S b then 0 else 1) = 0 := fun b => by by_cases h : S b <;> simp [h]
  exact ⟨Itm.iff h hi, fun b hb => hs b ((hi b).2 hb)⟩
theorem ownsRow_at {w : World} {g n z : Nat} {e : TypeId} {cs : Array Value} (h : w.heap[g]? = some (.cells cs e)) (hm : n ≤ maxLen) (hs : cs.size = n * z) : w.ownsRow 0 e z (.slice (some ⟨g, 0, none⟩) n n) n cs.toList :=
  ⟨by simpa using hs, .inr ⟨g, n, cs, rfl, Nat.zero_le _, h, Nat.le_refl _, hm, hs, by rw [← hs, ← Array.length_toList, List.take_length]⟩⟩
theorem mac3 {W : World} {lo gf gb gc n : Nat} {MC : Array Value} (hMC : Hid (madeCells #[Value.slice none 0 0] n = MC)) (hn : n ≤ 24) (hf : W.heap[gf]? = some (.cells MC 33)) (hb : W.heap[gb]? = some (.cells MC 33))
    (hc : W.heap[gc]? = some (.cells #[.bool false, .int .i64 0, .bool false, .int .i64 0, .bool false, .int .i64 0, .bool false, .int .i64 0] 126)) (h1 : lo ≤ gf) (h2 : lo ≤ gb) (h3 : lo ≤ gc) (d1 : gf ≠ gb) (d2 : gf ≠ gc) (d3 : gb ≠ gc) :
    Hs W lo [mac_ (.slice (some ⟨gf, 0, none⟩) n n) (.slice (some ⟨gb, 0, none⟩) n n) (.slice (some ⟨gc, 0, none⟩) 4 4) (.slice none 0 0) (.slice none 0 0) (newM (n : Int))] := by
  have k1 := heap_lt hf
  have k2 := heap_lt hb
  have k3 := heap_lt hc
  have hl : MC.size = n * 1 := by rw [← hMC.out, size_madeCells, Nat.mul_one]
  have ht : MC.toList = List.replicate n (.slice none 0 0) := by rw [← hMC.out, toList_madeCells_one]
  refine Hs.one' (S := fun b => b = gf ∨ b = gb ∨ b = gc) (by omega) ⟨fun b => if b = gf then 0 else if b = gb then 1 else 2, ?_⟩ fun k hk => by omega
  refine ⟨?_, ?_, ?_, OwC.nil _ _ _ _, rw_nil _ _⟩
  · have h := ownsRow_at hf (z := 1) (by unfold maxLen; omega) hl
    rw [ht] at h
    have := OwS.nils (S := fun b => (b = gf ∨ b = gb ∨ b = gc) ∧ (if b = gf then 0 else if b = gb then 1 else 2) = 0) h fun g hg => by simp [Value.ownBlock] at hg; subst hg; simp
    simpa [newM] using this
  · have h := ownsRow_at hb (z := 1) (by unfold maxLen; omega) hl
    rw [ht] at h
    have := OwS.nils (S := fun b => (b = gf ∨ b = gb ∨ b = gc) ∧ (if b = gf then 0 else if b = gb then 1 else 2) = 1) h fun g hg => by simp [Value.ownBlock] at hg; subst hg; simp [Ne.symm d1]
    simpa [newM] using this
  · have h := ownsRow_at hc (z := 2) (n := 4) (by unfold maxLen; omega) rfl
    have := OwC.plain (S := fun b => (b = gf ∨ b = gb ∨ b = gc) ∧ (if b = gf then 0 else if b = gb then 1 else 2) = 2) h rfl fun g hg => by simp [Value.ownBlock] at hg; subst hg; simp [Ne.symm d2, Ne.symm d3]
    simp only [newM]
    rw [List.length_replicate, carC_made]
    exact this
theorem chain2 (w : World) (a b c d : Obj) : ((((w.alloc a).alloc b).alloc c).alloc d).heap[w.heap.size + 1]? = some b := by
  have h := alloc_at_ (w.alloc a) b
  rw [World.size_alloc] at h
  exact keep_fwd (al1 _ d) (keep_fwd (al1 _ c) h)
theorem chain3 (w : World) (a b c d : Obj) : ((((w.alloc a).alloc b).alloc c).alloc d).heap[w.heap.size + 1 + 1]? = some c := by
  have h := alloc_at_ ((w.alloc a).alloc b) c
  rw [World.size_alloc, World.size_alloc] at h
  exact keep_fwd (al1 _ d) h
theorem chain4 (w : World) (a b c d : Obj) : ((((w.alloc a).alloc b).alloc c).alloc d).heap[w.heap.size + 1 + 1 + 1]? = some d := by
  have h := alloc_at_ (((w.alloc a).alloc b).alloc c) d
  rw [World.size_alloc, World.size_alloc, World.size_alloc] at h
  exact h
theorem chainB (w : World) (a b c d : Obj) : Below w.heap.size w ((((w.alloc a).alloc b).alloc c).alloc d).drew :=
  Below.drew ((((Below.refl _ w).alloc (Nat.le_refl _) a).alloc (by simp) b).alloc (by simp; omega) c |>.alloc (by simp; omega) d)
set_option maxRecDepth 100000 in
set_option maxHeartbeats 3200000 in
theorem newMachine_any (a : Int) (w : World) (h0 : 1 ≤ a) (h1 : a ≤ 24) :
    Calls Tryz.prog 65 #[.int .i64 a] w fun e w' => ∃ f b c l d, e = .returned (.agg #[.int .i64 a, .int .i64 0, f, b, c, l, d]) ∧ Hs w' w.heap.size [mac_ f b c l d (newM a)] ∧ Below w.heap.size w w' := by
  have hmk : ∀ W, (Instr.makeSlice 72 (.int .i64 4) (.int .i64 4)).run Tryz.prog W = .ok (.slice (some ⟨W.heap.size, 0, none⟩) 4 4) (W.alloc (.cells #[.bool false, .int .i64 0, .bool false, .int .i64 0, .bool false, .int .i64 0, .bool false, .int .i64 0] 126)) := fun _ => by kernel_rfl
  obtain ⟨n, rfl⟩ : ∃ n : Nat, a = (n : Int) := ⟨a.toNat, by omega⟩
  obtain ⟨i0, hi, hz0, hz1, hz2⟩ := info_parts sl_info
  have hmk2 : ∀ W, (Instr.makeSlice 71 (.int .i64 n) (.int .i64 n)).run Tryz.prog W = .ok (.slice (some ⟨W.heap.size, 0, none⟩) n n) (W.alloc (.cells (madeCells #[.slice none 0 0] n) 33)) := fun W => by
    have := run_mk (P := Tryz.prog) 71 33 i0 (.slice none 0 0) Tryz.underlying71 hi hz0 n (by rw [hz2]; decide) (by omega) W
    rw [hz1, Nat.mul_one] at this
    exact this
  clear hi hz0 hz1 hz2
  generalize hMC : madeCells #[Value.slice none 0 0] n = MC at *
  have HMC := Lib.hid hMC
  clear hMC
  go_enter Tryz.func65, Tryz.ntmps65
  go_wp2_with fail
  go_region_held3 (fun w' => True) (trivial) (fail)
  · go_wp2
    refine bodyPost_ret (v := .agg #[.int .i64 n, .int .i64 0, .slice (some ⟨w.heap.size + 1, 0, none⟩) n n, .slice (some ⟨w.heap.size + 1 + 1, 0, none⟩) n n, .slice (some ⟨w.heap.size + 1 + 1 + 1, 0, none⟩) 4 4, .slice none 0 0, .slice none 0 0]) ?_ rfl ?_
    focus (simp [results, Tryz.results65, go_sem]; done)
    exact ⟨_, _, _, _, _, rfl, mac3 HMC (by omega) (chain2 _ _ _ _ _) (chain3 _ _ _ _ _) (chain4 _ _ _ _ _) (by omega) (by omega) (by omega) (by omega) (by omega) (by omega), chainB _ _ _ _ _⟩
  · go_wp2
    refine bodyPost_ret (v := .agg #[.int .i64 n, .int .i64 0, .slice (some ⟨w.heap.size + 1, 0, none⟩) n n, .slice (some ⟨w.heap.size + 1 + 1 + 1, 0, none⟩) n n, .slice (some ⟨w.heap.size + 1 + 1, 0, none⟩) 4 4, .slice none 0 0, .slice none 0 0]) ?_ rfl ?_
    focus (simp [results, Tryz.results65, go_sem]; done)
    exact ⟨_, _, _, _, _, rfl, mac3 HMC (by omega) (chain2 _ _ _ _ _) (chain4 _ _ _ _ _) (chain3 _ _ _ _ _) (by omega) (by omega) (by omega) (by omega) (by omega) (by omega), chainB _ _ _ _ _⟩
  · go_wp2
    refine bodyPost_ret (v := .agg #[.int .i64 n, .int .i64 0, .slice (some ⟨w.heap.size + 1 + 1, 0, none⟩) n n, .slice (some ⟨w.heap.size + 1, 0, none⟩) n n, .slice (some ⟨w.heap.size + 1 + 1 + 1, 0, none⟩) 4 4, .slice none 0 0, .slice none 0 0]) ?_ rfl ?_
    focus (simp [results, Tryz.results65, go_sem]; done)
    exact ⟨_, _, _, _, _, rfl, mac3 HMC (by omega) (chain3 _ _ _ _ _) (chain2 _ _ _ _ _) (chain4 _ _ _ _ _) (by omega) (by omega) (by omega) (by omega) (by omega) (by omega), chainB _ _ _ _ _⟩
  · go_wp2
    refine bodyPost_ret (v := .agg #[.int .i64 n, .int .i64 0, .slice (some ⟨w.heap.size + 1 + 1 + 1, 0, none⟩) n n, .slice (some ⟨w.heap.size + 1, 0, none⟩) n n, .slice (some ⟨w.heap.size + 1 + 1, 0, none⟩) 4 4, .slice none 0 0, .slice none 0 0]) ?_ rfl ?_
    focus (simp [results, Tryz.results65, go_sem]; done)
    exact ⟨_, _, _, _, _, rfl, mac3 HMC (by omega) (chain4 _ _ _ _ _) (chain2 _ _ _ _ _) (chain3 _ _ _ _ _) (by omega) (by omega) (by omega) (by omega) (by omega) (by omega), chainB _ _ _ _ _⟩
  · go_wp2
    refine bodyPost_ret (v := .agg #[.int .i64 n, .int .i64 0, .slice (some ⟨w.heap.size + 1 + 1, 0, none⟩) n n, .slice (some ⟨w.heap.size + 1 + 1 + 1, 0, none⟩) n n, .slice (some ⟨w.heap.size + 1, 0, none⟩) 4 4, .slice none 0 0, .slice none 0 0]) ?_ rfl ?_
    focus (simp [results, Tryz.results65, go_sem]; done)
    exact ⟨_, _, _, _, _, rfl, mac3 HMC (by omega) (chain3 _ _ _ _ _) (chain4 _ _ _ _ _) (chain2 _ _ _ _ _) (by omega) (by omega) (by omega) (by omega) (by omega) (by omega), chainB _ _ _ _ _⟩
  · go_wp2
    refine bodyPost_ret (v := .agg #[.int .i64 n, .int .i64 0, .slice (some ⟨w.heap.size + 1 + 1 + 1, 0, none⟩) n n, .slice (some ⟨w.heap.size + 1 + 1, 0, none⟩) n n, .slice (some ⟨w.heap.size + 1, 0, none⟩) 4 4, .slice none 0 0, .slice none 0 0]) ?_ rfl ?_
    focus (simp [results, Tryz.results65, go_sem]; done)
    exact ⟨_, _, _, _, _, rfl, mac3 HMC (by omega) (chain4 _ _ _ _ _) (chain3 _ _ _ _ _) (chain2 _ _ _ _ _) (by omega) (by omega) (by omega) (by omega) (by omega) (by omega), chainB _ _ _ _ _⟩
end Go.Proofs.YtgmppfhokfifgaaGreatDoor
